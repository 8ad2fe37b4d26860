/- Tables of contracts; laws at the empty canonical world. -/
import Derived.Test.YtopnfbffcggnmaaDoorCsLib
import Derived.Test.YtopnfbffcggnmaaDoorCsLaw
namespace Go.Cs
variable {P : Program} {fid : FuncId → Option Nat} {G : Nat → World → Prop}

/-- A contract, as data: a function of the arguments; a function of the arguments and the world. -/
inductive Con where
  | p (F : List CV → Option CV)
  | e (F : List CV → CW → Option (CV × CW))

def Con.ct : Con → Ct
  | .p F => pureC F
  | .e F => effC F

abbrev Tab := List (Nat × Con)
def Tab.K (t : Tab) : Nat → Ct := fun g => match t.lookup g with
  | some c => c.ct
  | none => noK g
def Tab.pure (t : Tab) : Nat → Bool := fun g => match t.lookup g with
  | some (.p _) => true
  | _ => false

theorem Con.mono (c : Con) : MonoC c.ct := by
  intro vs cw Q Q' h
  cases c with
  | p F => rintro ⟨v, h1, h2⟩; exact ⟨v, h1, h _ _ h2⟩
  | e F => rintro ⟨r, h1, h2⟩; exact ⟨r, h1, h _ _ h2⟩
theorem Con.feas (c : Con) : FeasC c.ct := by
  intro vs cw Q
  cases c with
  | p F => rintro ⟨v, h1, h2⟩; exact ⟨_, _, h2⟩
  | e F => rintro ⟨r, h1, h2⟩; exact ⟨_, _, h2⟩
theorem Con.conj (c : Con) : ConjC c.ct := by
  intro ι vs cw Q i0 h
  cases c with
  | p F =>
    obtain ⟨v, h1, _⟩ := h i0
    refine ⟨v, h1, fun i => ?_⟩
    obtain ⟨v', h2, h3⟩ := h i
    rw [h1] at h2; cases h2; exact h3
  | e F =>
    obtain ⟨v, h1, _⟩ := h i0
    refine ⟨v, h1, fun i => ?_⟩
    obtain ⟨v', h2, h3⟩ := h i
    rw [h1] at h2; cases h2; exact h3
theorem Tab.K_or (t : Tab) (g : Nat) : t.K g = noK g ∨ ∃ c : Con, t.K g = c.ct := by
  unfold Tab.K
  cases t.lookup g with
  | none => exact .inl rfl
  | some c => exact .inr ⟨c, rfl⟩
theorem Tab.K_pure {t : Tab} {g : Nat} (h : t.pure g = true) : ∃ F, t.K g = pureC F := by
  unfold Tab.pure at h
  unfold Tab.K
  cases hl : t.lookup g with
  | none => rw [hl] at h; cases h
  | some c =>
    rw [hl] at h
    cases c with
    | p F => exact ⟨F, rfl⟩
    | e F => cases h

theorem Tab.ok (t : Tab) : KOk t.K t.pure where
  mono := by
    intro g
    rcases t.K_or g with h | ⟨c, h⟩ <;> rw [h]
    · exact fun _ _ _ _ _ h => h.elim
    · exact c.mono
  feas := by
    intro g
    rcases t.K_or g with h | ⟨c, h⟩ <;> rw [h]
    · exact fun _ _ _ h => h.elim
    · exact c.feas
  conj := by
    intro g
    rcases t.K_or g with h | ⟨c, h⟩ <;> rw [h]
    · exact fun _ _ _ _ i0 h => (h i0).elim
    · exact c.conj
  pure := by
    intro g hg
    obtain ⟨F, h⟩ := Tab.K_pure hg
    rw [h]
    exact ⟨fun vs v => F vs = some v, fun vs v v' h1 h2 => Option.some.inj (h1.symm.trans h2), fun vs cw Q => Iff.rfl⟩

theorem Tab.nil_sound : KSound P fid G (Tab.K []) := by
  rintro f g _ ⟨_, _, _, h⟩
  exact h.elim

theorem Tab.K_same (t : Tab) (g : Nat) (c : Con) : Tab.K ((g, c) :: t) g = c.ct := by
  unfold Tab.K
  rw [List.lookup_cons]
  simp
theorem Tab.K_other (t : Tab) {g i : Nat} (c : Con) (h : i ≠ g) : Tab.K ((g, c) :: t) i = t.K i := by
  unfold Tab.K
  rw [List.lookup_cons]
  have : (i == g) = false := by simpa using h
  rw [this]
theorem Tab.cons_sound {t : Tab} {g : Nat} {c : Con} (h : KSound P fid G t.K) (hs : ∀ f, fid f = some g → Sound P fid G f c.ct) : KSound P fid G (Tab.K ((g, c) :: t)) := by
  intro f i hf hne
  by_cases hi : i = g
  · subst hi
    rw [Tab.K_same]
    exact hs f hf
  · rw [Tab.K_other t c hi] at hne ⊢
    exact h f i hf hne

/-! ## A table that is told, for the interpreter -/
def Con.run : Con → List CV → CW → Option (CV × CW)
  | .p F, args, cw => (F args).map fun v => (v, cw)
  | .e F, args, cw => F args cw
def Tab.F (t : Tab) : CF := fun g args cw => (t.lookup g).bind fun c => c.run args cw

theorem Tab.lib_sound {t : Tab} (h : KSound P fid G t.K) : ∀ f g, fid f = some g → (∃ args cw r, t.F g args cw = some r) → Sound P fid G f (ctX t.F g) := by
  rintro f g hf ⟨args, cw, r, hr⟩
  unfold Tab.F at hr
  cases hl : t.lookup g with
  | none => rw [hl] at hr; cases hr
  | some c =>
    have hK : t.K g = c.ct := by unfold Tab.K; rw [hl]
    have e : ∀ args cw Q, ctX t.F g args cw Q → t.K g args cw Q := by
      rintro args cw Q ⟨r, h1, h2⟩
      rw [hK]
      unfold Tab.F at h1
      rw [hl] at h1
      cases c with
      | p F =>
        obtain ⟨v, hv, rfl⟩ := Option.map_eq_some_iff.1 (show (F args).map (fun v => (v, cw)) = some r from h1)
        exact ⟨v, hv, h2⟩
      | e F => exact ⟨r, h1, h2⟩
    exact (h f g hf ⟨args, cw, fun _ _ => True, e _ _ _ ⟨r, by unfold Tab.F; exact hr, trivial⟩⟩).weaken e

/-- Which of the told functions are pure, if none of them is run. -/
def pureX (Gt : List (Nat × RF)) (t : Tab) : Nat → Bool := fun g => (Gt.lookup g).isNone && t.pure g
def runG (Gt : List (Nat × RF)) : Nat → Option RF := fun g => Gt.lookup g

theorem mem_of_lookup {α : Type} : ∀ {l : List (Nat × α)} {g : Nat} {x : α}, l.lookup g = some x → (g, x) ∈ l
  | [], g, x, h => by cases h
  | p :: l, g, x, h => by
    rw [List.lookup_cons] at h
    by_cases hg : (g == p.1) = true
    · rw [hg] at h
      cases h
      have : g = p.1 := by simpa using hg
      subst this
      exact List.mem_cons_self ..
    · have : (g == p.1) = false := by simpa using hg
      rw [this] at h
      exact List.mem_cons_of_mem _ (mem_of_lookup h)

/-- A function that is run: the seat's function of that number resolves to it. -/
def Ent (P : Program) (fid : FuncId → Option Nat) (pure : Nat → Bool) (p : Nat × RF) : Prop :=
  ∀ f, fid f = some p.1 → ∃ fn own, P.funcs[f]? = some fn ∧ fn.name ≠ "runtime.NumGoroutine" ∧ resF P fid own fn = some p.2.strip ∧ p.2.body.ok pure = true

theorem run_sound (hm : P.follows .mixedOrders = true) {Gt : List (Nat × RF)} {t : Tab} (hE : ∀ p ∈ Gt, Ent P fid (pureX Gt t) p) (ht : KSound P fid G t.K) : ∀ n, KSound P fid G (ctX (callX (runG Gt) t.F n)) := by
  refine callX_sound (pure := pureX Gt t) hm (fun f g ir hf hg => hE (g, ir) (mem_of_lookup hg) f hf) (Tab.lib_sound ht) fun g hg => ?_
  simp only [pureX, Bool.and_eq_true] at hg
  refine ⟨by simpa [runG] using hg.1, ?_⟩
  have h2 := hg.2
  unfold Tab.pure at h2
  unfold Tab.F
  cases hl : t.lookup g with
  | none => rw [hl] at h2; cases h2
  | some c =>
    rw [hl] at h2
    cases c with
    | p F => exact ⟨F, fun args cw => rfl⟩
    | e F => cases h2

theorem fn_p {t : Tab} (hm : P.follows .mixedOrders = true) (hK : KSound P fid G t.K) {f : FuncId} {fn : Func} {own : List Nat} {ir : RF} {F : List CV → Option CV} (hf : P.funcs[f]? = some fn) (hname : fn.name ≠ "runtime.NumGoroutine")
    (hres : resF P fid own fn = some ir.strip) (hok : ir.body.ok t.pure = true) (hr : ∀ args v, F args = some v → args.length = ir.np ∧ ∀ cw, Runs t.K ir args cw v) : Sound P fid G f (Con.p F).ct :=
  sound_of hm hK t.ok hf hname hres hok fun _ _ _ hc => wpF_pure hr hc

theorem fn_e {t : Tab} (hm : P.follows .mixedOrders = true) (hK : KSound P fid G t.K) {f : FuncId} {fn : Func} {own : List Nat} {ir : RF} {F : List CV → CW → Option (CV × CW)} (hf : P.funcs[f]? = some fn) (hname : fn.name ≠ "runtime.NumGoroutine")
    (hres : resF P fid own fn = some ir.strip) (hok : ir.body.ok t.pure = true) (hr : ∀ args cw v cw', F args cw = some (v, cw') → args.length = ir.np ∧ cw' = cw ∧ Runs t.K ir args cw v) : Sound P fid G f (Con.e F).ct :=
  sound_of hm hK t.ok hf hname hres hok fun _ _ _ hc => wpF_eff hr hc

theorem lk_only {l : List (Nat × Nat)} {g n : Nat} (h : (l.all fun p => p.2 != g || p.1 == n) = true) : ∀ f, l.lookup f = some g → f = n := by
  intro f hf
  have := List.all_eq_true.1 h _ (mem_of_lookup hf)
  simpa using this

/-! ## The top -/
@[go_sem] theorem bne_tf : (true != false) = true := rfl
@[go_sem] theorem bne_ff : (false != false) = false := rfl
@[go_sem] theorem bne_tt : (true != true) = false := rfl
@[go_sem] theorem bne_ft : (false != true) = true := rfl
attribute [go_sem] beq_self_eq_true bne_self_eq_false
@[go_sem] theorem bne_xf (b : Bool) : (b != false) = b := by cases b <;> rfl
@[go_sem] theorem cw0_next : cw0.next = 0 := rfl
@[go_sem] theorem cw0_get (b : Nat) : cw0.get b = none := rfl
@[go_sem] theorem wpk_multi {K : Nat → Ct} {Q : RE → Env → CW → Prop} (ops : List RO) (orders : List (List Nat)) (l : List Nat) (s : List Fr) (ρ : Env) (cw : CW) :
    wpk K Q (.multi ops orders l) s ρ cw = ∀ o ∈ orders, wpo K Q (o.map fun i => (ops[i]?).getD default) l s ρ cw := rfl

theorem top_run {K : Nat → Ct} {f : RF} {args : List CV} (hl : args.length = f.np)
    (h : ∀ Q : RE → Env → CW → Prop, (∀ ρ' cw', resV cw' ρ' f.rs = some (.bool true) → Q .ret ρ' cw') → wpk K Q f.body [] (numb 0 args) cw0) : wpF K f args cw0 fun v _ => v = .bool true := by
  refine ⟨hl, h _ fun ρ' cw' hr => ⟨.inr rfl, _, _, cw', hr, .stay, rfl⟩⟩

end Go.Cs
