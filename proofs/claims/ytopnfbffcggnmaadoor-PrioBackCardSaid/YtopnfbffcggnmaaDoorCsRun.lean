/- From the canonical machine's weakest precondition to Go's: regions and code. -/
import Derived.Test.YtopnfbffcggnmaaDoorCsCode
namespace Go.Cs
open Go.RowKit (Below)
variable {P : Program} {fid : FuncId → Option Nat} {N : Nat} {w0 : World} {X : Cx} {cw : CW} {w : World} {ρ : Env} {a : Act} {K : Nat → Ct} {pure : Nat → Bool} {G : Nat → World → Prop}

/-- A place in a function: as the canonical machine has it, and as Go has it. -/
structure St (fid : FuncId → Option Nat) (N : Nat) (w0 : World) (X0 : Cx) (w1 : World) (n : Nat) (X : Cx) (cw : CW) (w : World) (ρ : Env) (a : Act) : Prop where
  sim : Sim fid N w0 X cw w
  ext : Ext X0 w1 X w
  env : EnvR fid X w ρ a
  size : a.tmps.size = n
  nodef : a.defers = []

def exOf : RE → Exit
  | .nx => .normal
  | .exit i => .exit i
  | .ret => .ret

def Res (fid : FuncId → Option Nat) (N : Nat) (w0 : World) (X0 : Cx) (w1 : World) (n : Nat) (Q : RE → Env → CW → Prop) : Exit → Act → World → Prop :=
  fun e a w => ∃ re X ρ cw, exOf re = e ∧ St fid N w0 X0 w1 n X cw w ρ a ∧ Q re ρ cw

/-- An operation and its resolved form. -/
structure OpR (P : Program) (fid : FuncId → Option Nat) (own : List Nat) (nt : Nat) (ops : Array Oper) (draw : Bool) (o : Oper) (r : RO) : Prop where
  op : resOp P fid (ownAt own o.dst) o.op = some r.op
  guard : resGuard ops o.guard = some r.guard
  ok : dstOk nt o.dst = true
  dst : r.dst = o.dst
  after : r.after = resAfter draw o

theorem resOps_spec {own : List Nat} {nt : Nat} {ops : Array Oper} {draw : Bool} : ∀ {os : List Oper} {l : List RO}, resOps P fid own nt ops draw os = some l →
    l.length = os.length ∧ ∀ (i : Nat) (o : Oper), os[i]? = some o → ∃ r : RO, l[i]? = some r ∧ OpR P fid own nt ops draw o r
  | [], l, h => by cases h; simp
  | o :: os, l, h => by
    simp only [resOps, Option.bind_eq_some_iff] at h
    obtain ⟨op, h1, g, h2, h⟩ := h
    split at h
    · rename_i h3
      simp only [Option.bind_eq_some_iff] at h
      obtain ⟨l', h4, h⟩ := h
      cases h
      obtain ⟨k1, k2⟩ := resOps_spec h4
      refine ⟨by simp [k1], fun i o' ho => ?_⟩
      cases i with
      | zero =>
        simp only [List.getElem?_cons_zero, Option.some.injEq] at ho ⊢
        subst ho
        exact ⟨_, rfl, h1, h2, h3, rfl, rfl⟩
      | succ i =>
        simp only [List.getElem?_cons_succ] at ho ⊢
        exact k2 i o' ho
    · cases h

theorem wanted_ok {ops : Array Oper} {o : Oper} {g : Option (Nat × Bool)} {b : Bool} (hg : resGuard ops o.guard = some g) (hw : wantedR g ρ = some b) (hE : EnvR fid X w ρ a) :
    Region.wanted o (yielded ops a.tmps) = b := by
  unfold Region.wanted
  cases hog : o.guard with
  | none =>
    rw [hog] at hg
    cases hg; cases hw; rfl
  | some jw =>
    obtain ⟨j, want⟩ := jw
    rw [hog] at hg
    simp only [resGuard, Option.bind_eq_some_iff] at hg
    obtain ⟨t, ⟨oj, hj, hd⟩, hg⟩ := hg
    cases hg
    simp only [wantedR] at hw
    simp only [yielded, hj, Option.bind_some, hd]
    split at hw
    · rename_i bb hbb
      cases hw
      obtain ⟨h1, h2⟩ := hE t _ hbb
      have := h2.bool_inv
      rw [Array.getD_eq_getD_getElem?, Array.getElem?_eq_getElem h1] at this
      simp only [Option.getD_some] at this
      rw [Array.getElem?_eq_getElem h1, this]
      cases bb <;> cases want <;> rfl
    · rename_i hbb
      cases hw
      obtain ⟨h1, h2⟩ := hE t _ hbb
      have := h2.tup0_inv
      rw [Array.getD_eq_getD_getElem?, Array.getElem?_eq_getElem h1] at this
      simp only [Option.getD_some] at this
      rw [Array.getElem?_eq_getElem h1, this]
      rfl
    · cases hw

theorem St.put {X0 : Cx} {w1 : World} {n : Nat} (h : St fid N w0 X0 w1 n X cw w ρ a) {d : Option Nat} {c : CV} {v : Value} {X' : Cx} {cw' : CW} {w' : World}
    (hd : dstOk n d = true) (s : Sim fid N w0 X' cw' w') (ex : Ext X w X' w') (hv : VR fid X' w' c v) : St fid N w0 X0 w1 n X' cw' w' (ρ.put d c) (a.put d v) where
  sim := s
  ext := h.ext.trans ex
  env := (h.env.mono ex).put (by rw [h.size]; exact hd) hv
  size := by rw [← h.size]; cases d <;> simp [Act.put]
  nodef := by rw [← h.nodef]; cases d <;> simp [Act.put]

/-- One operation of a region. -/
theorem opG_ok (hK : KSound P fid G K) (hG : G N w0) {own : List Nat} {n : Nat} {ops : Array Oper} {draw : Bool} {o : Oper} {r : RO} {X0 : Cx} {w1 : World} {Qc : CV → CW → Prop} {next : Act → World → Prop}
    {Q : Exit → Act → World → Prop} (hr : OpR P fid own n ops draw o r) (hS : St fid N w0 X0 w1 n X cw w ρ a) (hw : wpG K r ρ cw Qc)
    (hn : ∀ c cw' X' w' a', Qc c cw' → St fid N w0 X0 w1 n X' cw' w' (ρ.put r.dst c) a' → next a' w') {R : Prop} :
    if Region.wanted o (yielded ops a.tmps) then o.wp P a w next Q ∨ R else next (a.put o.dst undef) w := by
  obtain ⟨b, hb, hw⟩ := hw
  rw [wanted_ok hr.guard hb hS.env]
  cases b
  · simp only [Bool.false_eq_true, if_false] at hw ⊢
    refine hn _ _ X w _ hw ?_
    rw [hr.dst]
    exact hS.put hr.ok hS.sim (Ext.refl _ _) .tup0
  · simp only [if_true] at hw ⊢
    refine .inl (one_ok hK hG hr.op hS.env hS.sim hw fun c v cw' w' X' hq s ex hv => hn c cw' X' w' _ hq ?_)
    rw [hr.dst]
    exact hS.put hr.ok s ex hv

theorem St.drew {X0 : Cx} {w1 : World} {n : Nat} (h : St fid N w0 X0 w1 n X cw w ρ a) : St fid N w0 X0 w1 n X cw { w with drawn := w.drawn + 1 } ρ a := by
  obtain ⟨s, ex⟩ := h.sim.same (Below.drew (Below.refl _ w))
  exact ⟨s, h.ext.trans ex, h.env.mono ex, h.size, h.nodef⟩

/-- In the text's order. -/
theorem region_text (hK : KSound P fid G K) (hG : G N w0) {own : List Nat} {n : Nat} {ops : Array Oper} {draw : Bool} {X0 : Cx} {w1 : World} {Q : RE → Env → CW → Prop} {live : Option (List Nat)} {l : List RO}
    (hl : ∀ (i : Nat) (o : Oper), ops[i]? = some o → ∃ r : RO, l[i]? = some r ∧ OpR P fid own n ops draw o r) (hsz : l.length = ops.size) :
    ∀ (m k : Nat) {X : Cx} {cw : CW} {w : World} {ρ : Env} {a : Act}, k + m = ops.size → St fid N w0 X0 w1 n X cw w ρ a → wpl K (l.drop k) ρ cw (fun ρ' cw' => Q .nx (ρ'.keep live) cw') →
      wpOps P ops (Res fid N w0 X0 w1 n Q) (List.range' k m) a w
  | 0, k, X, cw, w, ρ, a, hk, hS, hw => by
    rw [List.drop_of_length_le (by omega)] at hw
    exact ⟨.nx, X, _, cw, rfl, ⟨hS.sim, hS.ext, hS.env.keep live, hS.size, hS.nodef⟩, hw⟩
  | m + 1, k, X, cw, w, ρ, a, hk, hS, hw => by
    have hlt : k < ops.size := by omega
    obtain ⟨r, hr, hor⟩ := hl k ops[k] (Array.getElem?_eq_getElem hlt)
    have hd : l.drop k = r :: l.drop (k + 1) := by
      obtain ⟨h1, h2⟩ := List.getElem?_eq_some_iff.1 hr
      rw [List.drop_eq_getElem_cons h1, h2]
    rw [hd] at hw
    rw [List.range'_succ]
    simp only [wpOps, Array.getElem?_eq_getElem hlt]
    exact opG_ok hK hG hor hS (wpl_cons.1 hw) fun c cw' X' w' a' hq hs => region_text hK hG hl hsz m (k + 1) (by omega) hs hq

end Go.Cs
