/- Contracts of functions that are not run here: told over plain values; and closed calls. -/
import Derived.Test.YtopnfbffcggnmaaDoorCsFn
import Derived.Test.YtopnfbffcggnmaaDoorCsExec
import Derived.Test.YtopnfbffcggnmaaDoorCsTac
namespace Go.Cs
open Go.RowKit (Below)
variable {P : Program} {fid : FuncId → Option Nat} {N : Nat} {w0 : World} {X : Cx} {cw : CW} {w : World} {G : Nat → World → Prop}

/-- A value of one cell that leads nowhere. -/
def scV : CV → Option Value
  | .int k n => some (.int k n)
  | .bool b => some (.bool b)
  | .str l => some (.string ⟨l.toArray⟩)
  | .nilp => some (.pointer none)
  | .nils => some (.slice none 0 0)
  | .nilm => some (.map none)
  | .nilf => some .nilFunc
  | .nili => some .nilIface
  | _ => none

def scAll : List CV → Option (List Value)
  | [] => some []
  | c :: cs => (scV c).bind fun v => (scAll cs).bind fun vs => some (v :: vs)

/-- A value that leads nowhere. -/
def plainV : CV → Option Value
  | .agg cs => (scAll cs).bind fun vs => some (.agg vs.toArray)
  | .tup cs => (scAll cs).bind fun vs => some (.tuple vs.toArray)
  | c => scV c

theorem scV_vr {c : CV} {v : Value} (h : scV c = some v) : VR fid X w c v ∧ c.one = true := by
  cases c <;> simp only [scV, Option.some.injEq, reduceCtorEq] at h <;> subst h
  · exact ⟨.int _ _, rfl⟩
  · exact ⟨.bool _, rfl⟩
  · exact ⟨.str' _, rfl⟩
  · exact ⟨.nilp, rfl⟩
  · exact ⟨.nils, rfl⟩
  · exact ⟨.nilm, rfl⟩
  · exact ⟨.nilf, rfl⟩
  · exact ⟨.nili, rfl⟩

theorem scV_inv {c : CV} {v u : Value} (h : scV c = some v) (hu : VR fid X w c u) : u = v := by
  cases c <;> simp only [scV, Option.some.injEq, reduceCtorEq] at h <;> subst h
  · exact hu.int_inv
  · exact hu.bool_inv
  · exact hu.str_inv
  all_goals (cases hu; rfl)

theorem scAll_spec : ∀ {cs : List CV} {vs : List Value}, scAll cs = some vs → vs.length = cs.length ∧ ∀ (i : Nat) (c : CV), cs[i]? = some c → ∃ v, vs[i]? = some v ∧ scV c = some v
  | [], vs, h => by cases h; simp
  | c :: cs, vs, h => by
    simp only [scAll, Option.bind_eq_some_iff] at h
    obtain ⟨v, hv, us, hus, h⟩ := h
    cases h
    obtain ⟨h1, h2⟩ := scAll_spec hus
    refine ⟨by simp [h1], fun i d hd => ?_⟩
    cases i with
    | zero =>
      simp only [List.getElem?_cons_zero, Option.some.injEq] at hd ⊢
      subst hd
      exact ⟨v, rfl, hv⟩
    | succ i => simpa using h2 i d (by simpa using hd)

theorem plain_vr {c : CV} {v : Value} (h : plainV c = some v) : VR fid X w c v := by
  cases c with
  | agg cs =>
    simp only [plainV, Option.bind_eq_some_iff] at h
    obtain ⟨vs, hvs, h⟩ := h
    cases h
    obtain ⟨h1, h2⟩ := scAll_spec hvs
    refine .agg (by simpa using h1) (fun i c hc => ?_) fun i c hc => ?_
    · obtain ⟨v, k1, k2⟩ := h2 i c hc
      exact (scV_vr (fid := fid) (X := X) (w := w) k2).2
    · obtain ⟨v, k1, k2⟩ := h2 i c hc
      simpa [Array.getD_eq_getD_getElem?, k1] using (scV_vr (fid := fid) (X := X) (w := w) k2).1
  | tup cs =>
    simp only [plainV, Option.bind_eq_some_iff] at h
    obtain ⟨vs, hvs, h⟩ := h
    cases h
    obtain ⟨h1, h2⟩ := scAll_spec hvs
    refine .tup (by simpa using h1) fun i c hc => ?_
    obtain ⟨v, k1, k2⟩ := h2 i c hc
    simpa [Array.getD_eq_getD_getElem?, k1] using (scV_vr (fid := fid) (X := X) (w := w) k2).1
  | _ => exact (scV_vr (by simpa only [plainV] using h)).1

theorem plain_inv {c : CV} {v u : Value} (h : plainV c = some v) (hu : VR fid X w c u) : u = v := by
  cases c with
  | agg cs =>
    simp only [plainV, Option.bind_eq_some_iff] at h
    obtain ⟨vs, hvs, h⟩ := h
    cases h
    obtain ⟨h1, h2⟩ := scAll_spec hvs
    cases hu with
    | @agg _ rcs k1 _ k3 =>
      congr 1
      refine Array.ext (by simp [k1, h1]) fun i hi hi' => ?_
      have hlt : i < cs.length := by omega
      obtain ⟨v, e1, e2⟩ := h2 i cs[i] (List.getElem?_eq_getElem hlt)
      have := scV_inv e2 (k3 i _ (List.getElem?_eq_getElem hlt))
      rw [Array.getD_eq_getD_getElem?, Array.getElem?_eq_getElem hi] at this
      simp only [Option.getD_some] at this
      rw [this]
      have := (List.getElem?_eq_some_iff.1 e1).2
      simpa using this.symm
  | tup cs =>
    simp only [plainV, Option.bind_eq_some_iff] at h
    obtain ⟨vs, hvs, h⟩ := h
    cases h
    obtain ⟨h1, h2⟩ := scAll_spec hvs
    cases hu with
    | @tup _ rcs k1 k3 =>
      congr 1
      refine Array.ext (by simp [k1, h1]) fun i hi hi' => ?_
      have hlt : i < cs.length := by omega
      obtain ⟨v, e1, e2⟩ := h2 i cs[i] (List.getElem?_eq_getElem hlt)
      have := scV_inv e2 (k3 i _ (List.getElem?_eq_getElem hlt))
      rw [Array.getD_eq_getD_getElem?, Array.getElem?_eq_getElem hi] at this
      simp only [Option.getD_some] at this
      rw [this]
      have := (List.getElem?_eq_some_iff.1 e1).2
      simpa using this.symm
  | _ => exact scV_inv (by simpa only [plainV] using h) hu

def plainAll : List CV → Option (List Value)
  | [] => some []
  | c :: cs => (plainV c).bind fun v => (plainAll cs).bind fun vs => some (v :: vs)

theorem plainAll_args : ∀ {cs : List CV} {vs : List Value}, plainAll cs = some vs → vs.length = cs.length ∧ ∀ (i : Nat) (c : CV), cs[i]? = some c → ∃ v, vs[i]? = some v ∧ plainV c = some v
  | [], vs, h => by cases h; simp
  | c :: cs, vs, h => by
    simp only [plainAll, Option.bind_eq_some_iff] at h
    obtain ⟨v, hv, us, hus, h⟩ := h
    cases h
    obtain ⟨h1, h2⟩ := plainAll_args hus
    refine ⟨by simp [h1], fun i d hd => ?_⟩
    cases i with
    | zero =>
      simp only [List.getElem?_cons_zero, Option.some.injEq] at hd ⊢
      subst hd
      exact ⟨v, rfl, hv⟩
    | succ i => simpa using h2 i d (by simpa using hd)

theorem args_plain {cs : List CV} {vs : List Value} (h : plainAll cs = some vs) {rargs : Array Value} (hA : ArgsR fid X w cs rargs) : rargs = vs.toArray := by
  obtain ⟨h1, h2⟩ := plainAll_args h
  refine Array.ext (by simp [hA.1, h1]) fun i hi hi' => ?_
  have hlt : i < cs.length := by rw [← hA.1]; exact hi
  obtain ⟨v, e1, e2⟩ := h2 i cs[i] (List.getElem?_eq_getElem hlt)
  have := plain_inv e2 (hA.2 i _ (List.getElem?_eq_getElem hlt))
  rw [Array.getD_eq_getD_getElem?, Array.getElem?_eq_getElem hi] at this
  simp only [Option.getD_some] at this
  rw [this]
  have := (List.getElem?_eq_some_iff.1 e1).2
  simpa using this.symm

theorem plain_args {cs : List CV} {vs : List Value} (h : plainAll cs = some vs) : ArgsR fid X w cs vs.toArray := by
  obtain ⟨h1, h2⟩ := plainAll_args h
  refine ⟨by simpa using h1, fun i c hc => ?_⟩
  obtain ⟨v, e1, e2⟩ := h2 i c hc
  simpa [Array.getD_eq_getD_getElem?, e1] using plain_vr (fid := fid) (X := X) (w := w) e2

/-- A contract of the library: plain values in, a plain value out; nothing that was there is written. -/
theorem sound_lib {f : FuncId} {F : List CV → Option CV} (he : ∃ fn, P.funcs[f]? = some fn ∧ fn.name ≠ "runtime.NumGoroutine" ∧ fn.body.isSome = true)
    (h : ∀ args v, F args = some v → ∃ vs rv, plainAll args = some vs ∧ plainV v = some rv ∧ ∀ N w0 w, G N w0 → Below N w0 w → N ≤ w.heap.size → Calls P f vs.toArray w fun e w' => e = .returned rv ∧ Below w.heap.size w w') :
    Sound P fid G f (pureC F) := by
  refine ⟨he, ?_⟩
  rintro args cw Q ⟨v, hv, hq⟩ N w0 X w rargs hG hS hA
  obtain ⟨vs, rv, h1, h2, h3⟩ := h args v hv
  rw [args_plain h1 hA]
  refine (h3 N w0 w hG hS.below hS.room).mono ?_
  rintro e w' ⟨rfl, hb⟩
  obtain ⟨s, ex⟩ := hS.same hb
  exact ⟨v, rv, cw, X, rfl, hq, s, ex, plain_vr h2⟩

/-- A closed call: what it gives from nothing it gives anywhere. -/
theorem sound_closed {f : FuncId} {C : Ct} {args : List CV} {v : CV} (hs : Sound P fid G f C) (hst : ∀ N w0 w, G N w0 → Below N w0 w → N ≤ w.heap.size → G w.heap.size w)
    {vs : List Value} {rv : Value} (h1 : plainAll args = some vs) (h2 : plainV v = some rv) (hc : C args ⟨fun _ => none, 0⟩ fun u _ => u = v) :
    Sound P fid G f (fun a cw Q => a = args ∧ Q v cw) := by
  refine ⟨hs.enter, ?_⟩
  rintro args cw Q ⟨rfl, hq⟩ N w0 X w rargs hG hS hA
  have hA' : ArgsR fid ⟨fun _ => none, fun r _ => r < w.heap.size, 0⟩ w args rargs := by
    rw [args_plain h1 hA]; exact plain_args h1
  have hs0 : Sim fid w.heap.size w ⟨fun _ => none, fun r _ => r < w.heap.size, 0⟩ ⟨fun _ => none, 0⟩ w :=
    ⟨rfl, (by intro b m h; cases h), (by intro b o h; cases h), (by intro b b' m m' h; cases h), (by intro b m h; cases h), fun r o h => h, fun r o h => h, Below.refl _ _, Nat.le_refl _⟩
  refine (hs.calls _ _ _ hc w.heap.size w _ w rargs (hst N w0 w hG hS.below hS.room) hs0 hA').mono ?_
  rintro e w' ⟨c, v', cw', X', rfl, rfl, s, _, hv⟩
  obtain ⟨s', ex'⟩ := hS.same s.below
  refine ⟨c, v', cw, X, rfl, hq, s', ex', ?_⟩
  rw [plain_inv h2 hv]
  exact plain_vr h2

theorem Sound.weaken {f : FuncId} {C C' : Ct} (hs : Sound P fid G f C) (h : ∀ args cw Q, C' args cw Q → C args cw Q) : Sound P fid G f C' :=
  ⟨hs.enter, fun args cw Q hc N w0 X w rargs hG hS hA => hs.calls args cw Q (h _ _ _ hc) N w0 X w rargs hG hS hA⟩

/-- A table with one more contract. -/
def updK (K : Nat → Ct) (g : Nat) (C : Ct) : Nat → Ct := fun i => if i = g then C else K i
theorem ksound_upd {K : Nat → Ct} {g : Nat} {C : Ct} (hK : KSound P fid G K) (h : ∀ f, fid f = some g → Sound P fid G f C) : KSound P fid G (updK K g C) := by
  intro f i hf hne
  unfold updK at hne ⊢
  by_cases hi : i = g
  · subst hi
    rw [if_pos rfl]; exact h f hf
  · rw [if_neg hi] at hne ⊢
    exact hK f i hf hne
def noK : Nat → Ct := fun _ _ _ _ => False
theorem ksound_no : KSound P fid G noK := by
  rintro f g _ ⟨_, _, _, h⟩
  exact h.elim

theorem wpF_eff {K : Nat → Ct} {f : RF} {F : List CV → CW → Option (CV × CW)} (h : ∀ args cw v cw', F args cw = some (v, cw') → args.length = f.np ∧ cw' = cw ∧ Runs K f args cw v) {args : List CV} {cw : CW} {Q : CV → CW → Prop}
    (hc : effC F args cw Q) : wpF K f args cw Q := by
  obtain ⟨⟨v, cw'⟩, hv, hq⟩ := hc
  obtain ⟨h1, rfl, h2⟩ := h args cw v cw' hv
  exact ⟨h1, h2 _ fun e ρ' cw' v' he hr hf hk => ⟨he, v', v, _, hr, .gone hf hk, hq⟩⟩

@[go_sem] theorem nx1 (n : Nat) : (n = n + 1) = False := by simp
@[go_sem] theorem nx2 (n : Nat) : (n + 1 = n) = False := by simp
@[go_sem] theorem nx3 (n : Nat) : (n = n + 1 + 1) = False := by simp; omega
@[go_sem] theorem nx4 (n : Nat) : (n + 1 + 1 = n) = False := by simp; omega
@[go_sem] theorem nx5 (n : Nat) : (n + 1 = n + 1 + 1) = False := by simp
@[go_sem] theorem nx6 (n : Nat) : (n + 1 + 1 = n + 1) = False := by simp

theorem frz_sc {base : Nat} {c : CV} {v : Value} (h : scV c = some v) : Frz base cw c c := by
  cases c <;> simp only [scV, reduceCtorEq] at h <;> constructor

theorem frz_scAll {base : Nat} {cs : List CV} {vs : List Value} (h : scAll cs = some vs) : ∀ (i : Nat) (c d : CV), cs[i]? = some c → cs[i]? = some d → Frz base cw c d := by
  intro i c d hc hd
  rw [hc] at hd; cases hd
  obtain ⟨v, _, h2⟩ := (scAll_spec h).2 i c hc
  exact frz_sc h2

theorem frz_plain {base : Nat} {c : CV} {v : Value} (h : plainV c = some v) : Frz base cw c c := by
  cases c with
  | agg cs =>
    simp only [plainV, Option.bind_eq_some_iff] at h
    obtain ⟨vs, hvs, h⟩ := h
    exact .agg rfl (frz_scAll hvs)
  | tup cs =>
    simp only [plainV, Option.bind_eq_some_iff] at h
    obtain ⟨vs, hvs, h⟩ := h
    exact .tup rfl (frz_scAll hvs)
  | _ => exact frz_sc (by simpa only [plainV] using h)

theorem wpb_iff {K : Nat → Ct} {Q : RE → Env → CW → Prop} {t : Bool} {a b : RC} {s : List Fr} {ρ : Env} {cw : CW} : wpb K Q (some (.bool t)) a b s ρ cw ↔ (t = true → wpk K Q a s ρ cw) ∧ (t = false → wpk K Q b s ρ cw) := by
  cases t <;> simp [wpb]

@[go_sem] theorem idx_0 {α : Type} (a : α) (l : List α) : (a :: l)[0]? = some a := rfl
@[go_sem] theorem idx_1 {α : Type} (a : α) (l : List α) : (a :: l)[1]? = l[0]? := rfl
@[go_sem] theorem idx_2 {α : Type} (a : α) (l : List α) : (a :: l)[2]? = l[1]? := rfl
@[go_sem] theorem idx_3 {α : Type} (a : α) (l : List α) : (a :: l)[3]? = l[2]? := rfl
@[go_sem] theorem idx_4 {α : Type} (a : α) (l : List α) : (a :: l)[4]? = l[3]? := rfl
@[go_sem] theorem idx_5 {α : Type} (a : α) (l : List α) : (a :: l)[5]? = l[4]? := rfl
@[go_sem] theorem idx_6 {α : Type} (a : α) (l : List α) : (a :: l)[6]? = l[5]? := rfl
@[go_sem] theorem idx_7 {α : Type} (a : α) (l : List α) : (a :: l)[7]? = l[6]? := rfl
@[go_sem] theorem idx_8 {α : Type} (a : α) (l : List α) : (a :: l)[8]? = l[7]? := rfl
@[go_sem] theorem idx_9 {α : Type} (a : α) (l : List α) : (a :: l)[9]? = l[8]? := rfl
@[go_sem] theorem idx_10 {α : Type} (a : α) (l : List α) : (a :: l)[10]? = l[9]? := rfl
@[go_sem] theorem idx_11 {α : Type} (a : α) (l : List α) : (a :: l)[11]? = l[10]? := rfl
@[go_sem] theorem idx_12 {α : Type} (a : α) (l : List α) : (a :: l)[12]? = l[11]? := rfl
@[go_sem] theorem idx_13 {α : Type} (a : α) (l : List α) : (a :: l)[13]? = l[12]? := rfl
@[go_sem] theorem idx_14 {α : Type} (a : α) (l : List α) : (a :: l)[14]? = l[13]? := rfl
@[go_sem] theorem idx_15 {α : Type} (a : α) (l : List α) : (a :: l)[15]? = l[14]? := rfl
@[go_sem] theorem idx_16 {α : Type} (a : α) (l : List α) : (a :: l)[16]? = l[15]? := rfl
@[go_sem] theorem idx_17 {α : Type} (a : α) (l : List α) : (a :: l)[17]? = l[16]? := rfl
@[go_sem] theorem idx_18 {α : Type} (a : α) (l : List α) : (a :: l)[18]? = l[17]? := rfl
@[go_sem] theorem idx_19 {α : Type} (a : α) (l : List α) : (a :: l)[19]? = l[18]? := rfl
@[go_sem] theorem idx_20 {α : Type} (a : α) (l : List α) : (a :: l)[20]? = l[19]? := rfl
@[go_sem] theorem idx_21 {α : Type} (a : α) (l : List α) : (a :: l)[21]? = l[20]? := rfl
@[go_sem] theorem idx_22 {α : Type} (a : α) (l : List α) : (a :: l)[22]? = l[21]? := rfl
@[go_sem] theorem idx_23 {α : Type} (a : α) (l : List α) : (a :: l)[23]? = l[22]? := rfl

attribute [go_sem] List.length_cons List.length_nil List.take_zero List.take_succ_cons List.drop_succ_cons List.cons_append List.nil_append List.append_nil List.all_cons List.all_nil Nat.reduceAdd Nat.reduceLeDiff Nat.reduceMul Nat.zero_add Nat.add_zero Bool.and_true Bool.true_and Bool.and_self Nat.le_refl and_self and_true true_and Int.toNat_zero List.drop_zero List.take_length Int.toNat_natCast Nat.mul_one Bool.not_true Bool.not_false Nat.reduceEqDiff if_true if_false reduceIte Bool.false_eq_true beq_true beq_false stepOp

end Go.Cs
