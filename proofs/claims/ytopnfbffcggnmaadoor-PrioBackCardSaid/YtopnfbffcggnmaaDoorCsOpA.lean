/- The operations, one by one: operands; operations on values. -/
import Derived.Test.YtopnfbffcggnmaaDoorCsSim
import Derived.Laws.Entries
import Derived.Laws.Strings
import Derived.Laws.Concat
import Derived.Laws.StructEq
import GoSem.Dispatch
namespace Go.Cs
open Go.RowKit (Below)

variable {P : Program} {fid : FuncId → Option Nat} {N : Nat} {w0 : World} {X : Cx} {cw : CW} {w : World} {ρ : Env} {a : Act}

def EnvR (fid : FuncId → Option Nat) (X : Cx) (w : World) (ρ : Env) (a : Act) : Prop :=
  ∀ t c, ρ.get t = some c → t < a.tmps.size ∧ VR fid X w c (a.tmps.getD t undef)

theorem EnvR.mono {X' : Cx} {w' : World} (h : EnvR fid X w ρ a) (e : Ext X w X' w') : EnvR fid X' w' ρ a :=
  fun t c hc => ⟨(h t c hc).1, (h t c hc).2.mono e⟩

theorem EnvR.put (h : EnvR fid X w ρ a) {d : Option Nat} {c : CV} {v : Value} (hd : dstOk a.tmps.size d = true) (hv : VR fid X w c v) :
    EnvR fid X w (ρ.put d c) (a.put d v) := by
  cases d with
  | none => exact h
  | some d =>
    simp only [dstOk, decide_eq_true_eq] at hd
    intro t c' hc
    simp only [Env.put, Env.get] at hc
    by_cases ht : d = t
    · subst ht
      simp only [if_true, Option.some.injEq] at hc
      subst hc
      exact ⟨by simp [Act.put, hd], by simp [Act.put, hd]; exact hv⟩
    · rw [if_neg ht] at hc
      obtain ⟨h1, h2⟩ := h t c' hc
      refine ⟨by simp [Act.put, h1], ?_⟩
      simp only [Act.put, Array.getD_eq_getD_getElem?]
      rw [Array.getElem?_setIfInBounds_ne ht]
      simpa [Array.getD_eq_getD_getElem?] using h2

theorem EnvR.keep (h : EnvR fid X w ρ a) (l : Option (List Nat)) : EnvR fid X w (ρ.keep l) a := by
  cases l with
  | none => exact h
  | some l =>
    intro t c hc
    have key : ∀ l : List Nat, Env.get (l.filterMap fun t => (Env.get ρ t).map fun v => (t, v)) t = some c → Env.get ρ t = some c := by
      intro l
      induction l with
      | nil => intro hc; cases hc
      | cons x r ih =>
        intro hc
        simp only [List.filterMap_cons] at hc
        cases hx : Env.get ρ x with
        | none => rw [hx] at hc; exact ih (by simpa using hc)
        | some v =>
          rw [hx] at hc
          simp only [Option.map_some, Env.get] at hc
          by_cases e : x = t
          · subst e; rw [if_pos rfl] at hc; rw [hx]; exact hc
          · rw [if_neg e] at hc; exact ih hc
    exact h t c (key l (by simpa [Env.keep] using hc))

theorem cvOne_vr {v : Value} {c : CV} (h : cvOne v = some c) : VR fid X w c v ∧ c.one = true := by
  unfold cvOne at h
  split at h <;> cases h <;> first
    | exact ⟨.int _ _, rfl⟩
    | exact ⟨.bool _, rfl⟩
    | exact ⟨.str _, rfl⟩
    | exact ⟨.nilp, rfl⟩
    | exact ⟨.nils, rfl⟩
    | exact ⟨.nilm, rfl⟩
    | exact ⟨.nilf, rfl⟩
    | exact ⟨.nili, rfl⟩

theorem cvAll_vr : ∀ {vs : List Value} {cs : List CV}, cvAll vs = some cs → cs.length = vs.length ∧
    ∀ (i : Nat) (c : CV), cs[i]? = some c → c.one = true ∧ VR fid X w c (vs[i]?.getD undef)
  | [], cs, h => by cases h; simp
  | v :: vs, cs, h => by
    simp only [cvAll, Option.bind_eq_some_iff] at h
    obtain ⟨c, hc, ds, hds, h⟩ := h
    cases h
    obtain ⟨h1, h2⟩ := cvAll_vr hds
    refine ⟨by simp [h1], fun i d hd => ?_⟩
    cases i with
    | zero =>
      simp only [List.getElem?_cons_zero, Option.some.injEq] at hd
      subst hd
      exact ⟨(cvOne_vr (fid := fid) (X := X) (w := w) hc).2, by simpa using (cvOne_vr hc).1⟩
    | succ i => simpa using h2 i d (by simpa using hd)

theorem cvOf_vr {v : Value} {c : CV} (h : cvOf v = some c) : VR fid X w c v := by
  unfold cvOf at h
  split at h
  · rename_i rcs
    simp only [Option.bind_eq_some_iff] at h
    obtain ⟨l, hl, h⟩ := h
    cases h
    obtain ⟨h1, h2⟩ := cvAll_vr (fid := fid) (X := X) (w := w) hl
    refine .agg (by simp [h1]) (fun i c hc => (h2 i c hc).1) fun i c hc => ?_
    have := (h2 i c hc).2
    simpa [Array.getD_eq_getD_getElem?] using this
  · exact (cvOne_vr h).1

theorem rx_vr {x : Operand} {r : RX} {c : CV} (h : rx fid x = some r) (he : ev ρ r = some c) (hE : EnvR fid X w ρ a) : VR fid X w c (a.eval x) := by
  cases x with
  | tmp t =>
    cases h
    exact (hE t c he).2
  | const v =>
    simp only [rx, Option.bind_eq_some_iff] at h
    obtain ⟨d, hd, h⟩ := h
    cases h; cases he
    exact cvOf_vr hd
  | func f =>
    simp only [rx, Option.bind_eq_some_iff] at h
    obtain ⟨g, hg, h⟩ := h
    cases h; cases he
    exact .fn hg rfl rfl (by simp) (by simp)
  | global g => cases h

theorem rxs_vr : ∀ {xs : List Operand} {rs : List RX} {cs : List CV}, rxs fid xs = some rs → evs (ev ρ) rs = some cs → EnvR fid X w ρ a →
    cs.length = xs.length ∧ ∀ (i : Nat) (c : CV), cs[i]? = some c → VR fid X w c ((xs.map a.eval)[i]?.getD undef)
  | [], rs, cs, h, he, _ => by cases h; cases he; simp
  | x :: xs, rs, cs, h, he, hE => by
    simp only [rxs, Option.bind_eq_some_iff] at h
    obtain ⟨y, hy, ys, hys, h⟩ := h
    cases h
    simp only [evs, Option.bind_eq_some_iff] at he
    obtain ⟨c, hc, ds, hds, he⟩ := he
    cases he
    obtain ⟨h1, h2⟩ := rxs_vr hys hds hE
    refine ⟨by simp [h1], fun i d hd => ?_⟩
    cases i with
    | zero =>
      simp only [List.getElem?_cons_zero, Option.some.injEq] at hd
      subst hd
      simpa using rx_vr hy hc hE
    | succ i => simpa using h2 i d (by simpa using hd)

/-- What an operation on values does. -/
def ResV (fid : FuncId → Option Nat) (N : Nat) (w0 : World) (X : Cx) (P : Program) (s : Sem Value) (w : World) (c : CV) (cw' : CW) : Prop :=
  ∃ v w' X', s.run P w = .ok v w' ∧ Sim fid N w0 X' cw' w' ∧ Ext X w X' w' ∧ VR fid X' w' c v

theorem ResV.pure {s : Sem Value} {c : CV} {v : Value} (hS : Sim fid N w0 X cw w) (hr : s.run P w = .ok v w) (hv : VR fid X w c v) : ResV fid N w0 X P s w c cw :=
  ⟨v, w, X, hr, hS, .refl X w, hv⟩

theorem binI_run {op : BinOp} {k : IntKind} {x y : Int} {c : CV} {t : TypeId} (h : binI op k x y = some c) (hs : isSh op = false) :
    ∃ v, (Go.binOp op t (.int k x) (.int k y)).run P w = .ok v w ∧ VR fid X w c v := by
  cases op <;> simp only [isSh, Bool.true_eq_false] at hs <;> simp only [binI] at h
  case quo =>
    split at h
    · cases h
    · rename_i h0
      cases h
      exact ⟨_, by simp [Go.binOp, Op.intDiv, h0], .int _ _⟩
  case rem =>
    split at h
    · cases h
    · rename_i h0
      cases h
      exact ⟨_, by simp [Go.binOp, Op.intDiv, h0], .int _ _⟩
  all_goals
    cases h
    first
      | (refine ⟨_, ?_, .int _ _⟩; simp [Go.binOp, Op.intArith, Op.intBits, andI, orI, xorI, clrI]; done)
      | (refine ⟨_, ?_, .bool _⟩; simp [Go.binOp, Op.intCmp]; done)

theorem binSh_run {op : BinOp} {k k' : IntKind} {x y : Int} {c : CV} {t : TypeId} (h : binSh op k x y = some c) :
    ∃ v, (Go.binOp op t (.int k x) (.int k' y)).run P w = .ok v w ∧ VR fid X w c v := by
  unfold binSh at h
  split at h
  · cases h
  · rename_i hy
    split at h <;> cases h
    · exact ⟨_, by simp [Go.binOp, Op.shift, hy], .int _ _⟩
    · exact ⟨_, by simp [Go.binOp, Op.shift, hy], .int _ _⟩

theorem binS_run {op : BinOp} {x y : List UInt8} {c : CV} {t : TypeId} (h : binS op x y = some c) :
    ∃ v, (Go.binOp op t (.string ⟨x.toArray⟩) (.string ⟨y.toArray⟩)).run P w = .ok v w ∧ VR fid X w c v := by
  cases op <;> simp only [binS] at h
  case add =>
    split at h
    · cases h
      refine ⟨.string ⟨(x ++ y).toArray⟩, ?_, VR.str' _⟩
      simp only [Go.binOp]
      rw [run_string_add_sum w _ _ (by simp [ByteArray.size]; omega), ByteArray.mk_append_mk]
    · cases h
  all_goals
    cases h
    try (refine ⟨_, ?_, .bool _⟩; simp [Go.binOp, Op.stringOp]; done)

theorem binV_run {op : BinOp} {x y c : CV} {u v : Value} {t : TypeId} (h : binV op x y = some c) (hx : VR fid X w x u) (hy : VR fid X w y v) :
    ∃ r, (Go.binOp op t u v).run P w = .ok r w ∧ VR fid X w c r := by
  unfold binV at h
  split at h
  · cases hx; cases hy
    split at h
    · exact binSh_run h
    · rename_i hs
      split at h
      · rename_i hk; subst hk
        exact binI_run h (by simpa using hs)
      · cases h
  · rw [hx.str_inv, hy.str_inv]
    exact binS_run h
  · cases h

/-- Where the operands are neither a nil interface nor an aggregate, the guard of '==' does nothing. -/
theorem guard_run {op : BinOp} {t : TypeId} {x y : Operand} {u v : Value} (h : ∀ cs, u ≠ .agg cs) (h' : u ≠ .nilIface) : (eqGuard op t x y u v).run P w = .ok () w := by
  unfold eqGuard
  cases u <;> first
    | exact absurd rfl h'
    | exact absurd rfl (h _)
    | (cases op <;> rfl)

theorem binV_guard {op : BinOp} {x y c : CV} {u : Value} (h : binV op x y = some c) (hx : VR fid X w x u) : (∀ cs, u ≠ .agg cs) ∧ u ≠ .nilIface := by
  unfold binV at h
  split at h
  · cases hx; simp
  · rw [hx.str_inv]; simp
  · cases h

end Go.Cs
