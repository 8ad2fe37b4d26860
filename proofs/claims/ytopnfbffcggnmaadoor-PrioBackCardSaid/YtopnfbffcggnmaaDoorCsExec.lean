/- Running the canonical machine: what a closed call gives is reckoned, not proved by hand. -/
import Derived.Test.YtopnfbffcggnmaaDoorCsFn
namespace Go.Cs
variable {P : Program} {fid : FuncId → Option Nat} {pure : Nat → Bool} {Gl : Nat → World → Prop}

abbrev CF := Nat → List CV → CW → Option (CV × CW)

def opX (F : CF) (o : ROp) (ρ : Env) (cw : CW) : Option (CV × CW) :=
  match o with
  | .call g xs => (evs (ev ρ) xs).bind fun vs => F g vs cw
  | .callv f xs => match ev ρ f with
    | some (.fn g first caps) => (evs (ev ρ) xs).bind fun vs => F g (first ++ vs ++ caps) cw
    | _ => none
  | o => stepOp o (ev ρ) cw

def opsX (F : CF) : List RO → Env → CW → Option (Env × CW)
  | [], ρ, cw => some (ρ, cw)
  | o :: r, ρ, cw => match wantedR o.guard ρ with
    | some true => match opX F o.op ρ cw with
      | some (v, cw') => opsX F r (ρ.put o.dst v) cw'
      | none => none
    | some false => opsX F r (ρ.put o.dst (.tup [])) cw
    | none => none

def loopX (body : Env → CW → Option (RE × Env × CW)) : Nat → Env → CW → Option (RE × Env × CW)
  | 0, _, _ => none
  | n + 1, ρ, cw => match body ρ cw with
    | some (.nx, ρ', cw') => loopX body n ρ' cw'
    | r => r

def codeX (F : CF) (n : Nat) : RC → Env → CW → Option (RE × Env × CW)
  | .skip, ρ, cw => some (.nx, ρ, cw)
  | .region ops _ live, ρ, cw => match opsX F ops ρ cw with
    | some (ρ', cw') => some (.nx, ρ'.keep live, cw')
    | none => none
  | .seq a b, ρ, cw => match codeX F n a ρ cw with
    | some (.nx, ρ', cw') => codeX F n b ρ' cw'
    | r => r
  | .cond x a b, ρ, cw => match ev ρ x with
    | some (.bool true) => codeX F n a ρ cw
    | some (.bool false) => codeX F n b ρ cw
    | _ => none
  | .block id c, ρ, cw => match codeX F n c ρ cw with
    | some (.exit i, ρ', cw') => if i = id then some (.nx, ρ', cw') else some (.exit i, ρ', cw')
    | r => r
  | .loop c, ρ, cw => loopX (codeX F n c) n ρ cw
  | .exit id, ρ, cw => some (.exit id, ρ, cw)
  | .ret, ρ, cw => some (.ret, ρ, cw)
  | .scope c, ρ, cw => codeX F n c ρ cw
  | .label _, ρ, cw => some (.nx, ρ, cw)
  | .multi _ _ _, _, _ => none

/-- The contract of what a run gives. -/
def ctX (F : CF) : Nat → Ct := fun g args cw Q => ∃ r, F g args cw = some r ∧ Q r.1 r.2

def fnX (F : CF) (n : Nat) (f : RF) (args : List CV) (cw : CW) : Option (CV × CW) :=
  if args.length = f.np then
    match codeX F n f.body (numb 0 args) cw with
    | some (.nx, ρ, cw') => (resV cw' ρ f.rs).bind fun v => some (v, cw')
    | some (.ret, ρ, cw') => (resV cw' ρ f.rs).bind fun v => some (v, cw')
    | _ => none
  else none

/-- G: the functions that are run; L: those that are told. -/
def callX (G : Nat → Option RF) (L : CF) : Nat → CF
  | 0 => fun g args cw => L g args cw
  | n + 1 => fun g args cw => match G g with
    | some f => fnX (callX G L n) n f args cw
    | none => L g args cw

theorem opX_wp {F : CF} {o : ROp} {ρ : Env} {cw : CW} {r : CV × CW} {Q : CV → CW → Prop} (h : opX F o ρ cw = some r) (hq : Q r.1 r.2) : wpOp (ctX F) o ρ cw Q := by
  unfold opX at h
  unfold wpOp
  split at h
  · obtain ⟨vs, h1, h2⟩ := Option.bind_eq_some_iff.1 h
    exact ⟨vs, h1, r, h2, hq⟩
  · split at h
    · rename_i g first caps hf
      obtain ⟨vs, h1, h2⟩ := Option.bind_eq_some_iff.1 h
      exact ⟨g, first, caps, vs, hf, h1, r, h2, hq⟩
    · cases h
  · rename_i h1 h2
    split
    · exact absurd rfl (h1 _ _)
    · exact absurd rfl (h2 _ _)
    · exact ⟨r, h, hq⟩

theorem opsX_wp {F : CF} : ∀ {l : List RO} {ρ : Env} {cw : CW} {r : Env × CW} {Q : Env → CW → Prop}, opsX F l ρ cw = some r → Q r.1 r.2 → wpl (ctX F) l ρ cw Q
  | [], ρ, cw, r, Q, h, hq => by cases h; exact hq
  | o :: l, ρ, cw, r, Q, h, hq => by
    simp only [opsX] at h
    split at h
    · rename_i hw
      split at h
      · rename_i v cw' ho
        exact ⟨true, hw, opX_wp ho (opsX_wp h hq)⟩
      · cases h
    · rename_i hw
      exact ⟨false, hw, opsX_wp h hq⟩
    · cases h

theorem codeX_wp {F : CF} {n : Nat} : ∀ (c : RC) {ρ : Env} {cw : CW} {r : RE × Env × CW} {Q : RE → Env → CW → Prop}, codeX F n c ρ cw = some r → Q r.1 r.2.1 r.2.2 → wpc (ctX F) c ρ cw Q := by
  intro c
  induction c with
  | skip => intro ρ cw r Q h hq; cases h; exact hq
  | label l => intro ρ cw r Q h hq; cases h; exact hq
  | exit l => intro ρ cw r Q h hq; cases h; exact hq
  | ret => intro ρ cw r Q h hq; cases h; exact hq
  | region ops d live =>
    intro ρ cw r Q h hq
    simp only [codeX] at h
    split at h
    · rename_i ρ' cw' ho
      cases h
      exact opsX_wp ho hq
    · cases h
  | seq a b iha ihb =>
    intro ρ cw r Q h hq
    simp only [codeX] at h
    split at h
    · rename_i ρ' cw' ho
      exact iha ho (ihb h hq)
    · rename_i hne
      refine iha h ?_
      obtain ⟨e, ρ', cw'⟩ := r
      cases e with
      | nx => exact absurd h (hne _ _)
      | exit i => exact hq
      | ret => exact hq
  | cond x a b iha ihb =>
    intro ρ cw r Q h hq
    simp only [codeX] at h
    split at h
    · rename_i hx
      exact ⟨true, hx, iha h hq⟩
    · rename_i hx
      exact ⟨false, hx, ihb h hq⟩
    · cases h
  | block id b ih =>
    intro ρ cw r Q h hq
    simp only [codeX] at h
    split at h
    · rename_i i ρ' cw' ho
      refine ih ho ?_
      simp only [blkQ]
      split at h
      · rename_i hi
        cases h
        rw [if_pos hi]; exact hq
      · rename_i hi
        cases h
        rw [if_neg hi]; exact hq
    · rename_i hne
      refine ih h ?_
      obtain ⟨e, ρ', cw'⟩ := r
      cases e with
      | nx => exact hq
      | exit i => exact absurd h (hne _ _ _)
      | ret => exact hq
  | loop b ih =>
    intro ρ cw r Q h hq
    simp only [codeX] at h
    refine ⟨n, ?_⟩
    have key : ∀ m ρ cw, loopX (codeX F n b) m ρ cw = some r → loopN (wpc (ctX F) b) m ρ cw Q := by
      intro m
      induction m with
      | zero => intro ρ cw h; cases h
      | succ m ihm =>
        intro ρ cw h
        simp only [loopX] at h
        split at h
        · rename_i ρ' cw' ho
          exact ih ho (ihm _ _ h)
        · rename_i hne
          refine ih h ?_
          obtain ⟨e, ρ', cw'⟩ := r
          cases e with
          | nx => exact absurd h (hne _ _)
          | exit i => exact hq
          | ret => exact hq
    exact key n ρ cw h
  | scope b ih => intro ρ cw r Q h hq; exact ih h hq
  | multi ops orders live => intro ρ cw r Q h hq; cases h

theorem fnX_wp {F : CF} {n : Nat} {f : RF} {args : List CV} {cw : CW} {r : CV × CW} {Q : CV → CW → Prop} (h : fnX F n f args cw = some r) (hq : Q r.1 r.2) : wpF (ctX F) f args cw Q := by
  unfold fnX at h
  split at h
  · rename_i hl
    refine ⟨hl, ?_⟩
    split at h
    · rename_i ρ cw' hc
      obtain ⟨v, hv, h⟩ := Option.bind_eq_some_iff.1 h
      cases h
      exact codeX_wp _ hc ⟨.inl rfl, v, v, cw', hv, .stay, hq⟩
    · rename_i ρ cw' hc
      obtain ⟨v, hv, h⟩ := Option.bind_eq_some_iff.1 h
      cases h
      exact codeX_wp _ hc ⟨.inr rfl, v, v, cw', hv, .stay, hq⟩
    · cases h
  · cases h

theorem ctX_mono (F : CF) (g : Nat) : MonoC (ctX F g) := by
  rintro vs cw Q Q' h ⟨r, h1, h2⟩
  exact ⟨r, h1, h _ _ h2⟩
theorem ctX_feas (F : CF) (g : Nat) : FeasC (ctX F g) := by
  rintro vs cw Q ⟨r, h1, h2⟩
  exact ⟨_, _, h2⟩
theorem ctX_conj (F : CF) (g : Nat) : ConjC (ctX F g) := by
  intro ι vs cw Q i0 h
  obtain ⟨r, h1, _⟩ := h i0
  refine ⟨r, h1, fun i => ?_⟩
  obtain ⟨r', h2, h3⟩ := h i
  rw [h1] at h2; cases h2
  exact h3
theorem ctX_ok (F : CF) (pure : Nat → Bool) (h : ∀ g, pure g = true → ∃ L : List CV → Option CV, ∀ args cw, F g args cw = (L args).map fun v => (v, cw)) : KOk (ctX F) pure where
  mono := ctX_mono F
  feas := ctX_feas F
  conj := ctX_conj F
  pure := by
    intro g hg
    obtain ⟨L, hL⟩ := h g hg
    refine ⟨fun vs v => L vs = some v, fun vs v v' h1 h2 => Option.some.inj (h1.symm.trans h2), fun vs cw Q => ?_⟩
    constructor
    · rintro ⟨r, h1, h2⟩
      rw [hL] at h1
      obtain ⟨v, hv, rfl⟩ := Option.map_eq_some_iff.1 h1
      exact ⟨v, hv, h2⟩
    · rintro ⟨v, h1, h2⟩
      exact ⟨(v, cw), by rw [hL, h1]; rfl, h2⟩

/-- All that is run is sound, if all that is told is. -/
theorem callX_sound (hm : P.follows .mixedOrders = true) {G : Nat → Option RF} {L : CF}
    (hG : ∀ f g ir, fid f = some g → G g = some ir → ∃ fn own, P.funcs[f]? = some fn ∧ fn.name ≠ "runtime.NumGoroutine" ∧ resF P fid own fn = some ir.strip ∧ ir.body.ok pure = true)
    (hL : ∀ f g, fid f = some g → (∃ args cw r, L g args cw = some r) → Sound P fid Gl f (ctX L g))
    (hp : ∀ g, pure g = true → G g = none ∧ ∃ l : List CV → Option CV, ∀ args cw, L g args cw = (l args).map fun v => (v, cw)) :
    ∀ n, KSound P fid Gl (ctX (callX G L n)) := by
  intro n
  induction n with
  | zero =>
    rintro f g hf ⟨args, cw, Q, r, h1, h2⟩
    exact hL f g hf ⟨args, cw, r, h1⟩
  | succ n ih =>
    rintro f g hf ⟨args, cw, Q, r, h1, h2⟩
    cases hg : G g with
    | some ir =>
      obtain ⟨fn, own, k1, k2, k3, k4⟩ := hG f g ir hf hg
      refine sound_of (pure := pure) hm ih (ctX_ok _ _ fun g' hg' => ?_) k1 k2 k3 k4 ?_
      · obtain ⟨e1, l, e2⟩ := hp g' hg'
        refine ⟨l, fun args cw => ?_⟩
        cases n with
        | zero => exact e2 args cw
        | succ n => simp only [callX, e1]; exact e2 args cw
      · rintro args cw Q ⟨r, h1, h2⟩
        simp only [callX, hg] at h1
        exact fnX_wp h1 h2
    | none =>
      have e : ctX (callX G L (n + 1)) g = ctX L g := by
        funext args cw Q
        simp only [ctX, callX, hg]
      rw [e]
      simp only [callX, hg] at h1
      exact hL f g hf ⟨args, cw, r, h1⟩

end Go.Cs
