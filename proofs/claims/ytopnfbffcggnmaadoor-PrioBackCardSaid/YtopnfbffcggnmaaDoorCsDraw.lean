/- The order of a region's operations: independent ones may change places. -/
import Derived.Test.YtopnfbffcggnmaaDoorCsBase
namespace Go.Cs

def ROp.reads : ROp → List RX
  | .mov x | .not x | .neg x | .cpl x | .conv _ x | .s2s x | .s2b _ x | .b2s x | .i2s x | .len x | .lenS x | .lenM x | .box _ x | .load _ _ x | .nilc x | .faddr _ x | .fld _ _ _ x
  | .subA _ _ x | .clr _ _ x | .ext _ x | .ifc _ x | .mclr x => [x]
  | .pick c a b => [c, a, b]
  | .bin _ x y | .eq _ _ x y | .store _ x y | .iaddr _ x y | .iaddrA _ _ x y | .idx _ _ _ x y | .idxS x y | .mk _ _ x y | .app _ x y | .appZ _ _ x y | .copy _ x y | .max x y | .min x y
  | .look _ _ _ x y | .ment _ _ x y | .mdel _ x y => [x, y]
  | .lenA _ | .alloc _ | .mkmap => []
  | .build _ ps | .lit _ _ _ _ ps => ps.map (·.2.2)
  | .subS x lo hi => x :: (lo.toList ++ hi.toList)
  | .sub _ x lo hi mx => x :: (lo.toList ++ hi.toList ++ mx.toList)
  | .call _ xs => xs
  | .callv f xs => f :: xs
  | .mkfn _ a b => a ++ b
  | .mupd _ m k v | .mset m k v => [m, k, v]

theorem evs_congr {e e' : RX → Option CV} : ∀ {xs : List RX}, (∀ x ∈ xs, e x = e' x) → evs e xs = evs e' xs
  | [], _ => rfl
  | x :: xs, h => by
    simp only [evs, h x (by simp)]
    rw [evs_congr fun y hy => h y (by simp [hy])]

theorem fillc_congr {e e' : RX → Option CV} : ∀ {ps : List (Nat × Nat × RX)} {cs : List CV}, (∀ x ∈ ps.map (·.2.2), e x = e' x) → fillc e cs ps = fillc e' cs ps
  | [], _, _ => rfl
  | (o, n, x) :: r, cs, h => by
    simp only [fillc, h x (by simp)]
    congr 1
    funext v
    split
    · exact fillc_congr fun y hy => h y (by simp at hy ⊢; exact .inr hy)
    · rfl

theorem evo_congr {e e' : RX → Option CV} {x : Option RX} (h : ∀ y ∈ x.toList, e y = e' y) : evo e x = evo e' x := by
  cases x with
  | none => rfl
  | some x => simp only [evo, h x (by simp)]

theorem stepOp_congr {e e' : RX → Option CV} {o : ROp} (h : ∀ x ∈ o.reads, e x = e' x) (cw : CW) : stepOp o e cw = stepOp o e' cw := by
  cases o
  case build z ps => simp only [stepOp]; rw [fillc_congr (e := e) (e' := e') h]
  case lit own sz n z ps => simp only [stepOp]; rw [fillc_congr (e := e) (e' := e') h]
  case subS x lo hi =>
    simp only [stepOp, h x (by simp [ROp.reads])]
    rw [evo_congr (x := lo) fun y hy => h y (by simp only [ROp.reads, List.mem_cons, List.mem_append]; exact .inr (.inl hy)), evo_congr (x := hi) fun y hy => h y (by simp only [ROp.reads, List.mem_cons, List.mem_append]; exact .inr (.inr hy))]
  case sub sz x lo hi mx =>
    simp only [stepOp, h x (by simp [ROp.reads])]
    rw [evo_congr (x := lo) fun y hy => h y (by simp only [ROp.reads, List.mem_cons, List.mem_append]; exact .inr (.inl (.inl hy))),
      evo_congr (x := hi) fun y hy => h y (by simp only [ROp.reads, List.mem_cons, List.mem_append]; exact .inr (.inl (.inr hy))),
      evo_congr (x := mx) fun y hy => h y (by simp only [ROp.reads, List.mem_cons, List.mem_append]; exact .inr (.inr hy))]
  case mkfn g a b =>
    simp only [stepOp]
    rw [evs_congr (xs := a) fun y hy => h y (by simp only [ROp.reads, List.mem_append]; exact .inl hy), evs_congr (xs := b) fun y hy => h y (by simp only [ROp.reads, List.mem_append]; exact .inr hy)]
  case call g xs => rfl
  case callv f xs => rfl
  case lenA n => rfl
  case alloc z => rfl
  case mkmap => rfl
  all_goals
    simp only [ROp.reads, List.mem_cons, List.not_mem_nil, or_false, forall_eq_or_imp, forall_eq] at h
    simp only [stepOp, h]

/-- The operation asks nothing of the world, and leaves it. -/
def ROp.pure : ROp → Bool
  | .mov _ | .pick .. | .bin .. | .eq .. | .not _ | .neg _ | .cpl _ | .conv .. | .s2s _ | .len _ | .lenS _ | .lenA _ | .nilc _ | .faddr .. | .fld .. | .iaddr .. | .iaddrA .. | .idx .. | .idxS .. | .build ..
  | .subS .. | .max .. | .min .. | .mkfn .. | .ext .. | .ifc .. => true
  | .s2b own _ | .lit own _ _ _ _ => !own
  | _ => false

/-- The operation leaves the world. -/
def ROp.quiet : ROp → Bool
  | .load .. | .b2s _ | .lenM _ | .look .. | .sub .. => true
  | o => o.pure

theorem bind_world {α : Type} {x : Option α} {f : α → Option (CV × CW)} {c : CV} {cw' : CW} (h : x.bind f = some (c, cw')) : ∃ a, x = some a ∧ f a = some (c, cw') := by
  simpa only [Option.bind_eq_some_iff] using h

theorem stepOp_pure {o : ROp} (hp : o.pure = true) {e : RX → Option CV} {cw cw' : CW} {c : CV} (h : stepOp o e cw = some (c, cw')) : cw' = cw ∧ ∀ cw2, stepOp o e cw2 = some (c, cw2) := by
  cases o <;> simp only [ROp.pure, Bool.false_eq_true] at hp <;> simp only [stepOp] at h ⊢
  case s2b own x =>
    simp only [Bool.not_eq_true'] at hp
    subst hp
    split at h
    · cases h; exact ⟨rfl, fun _ => rfl⟩
    · cases h
  case lit own sz n z ps =>
    simp only [Bool.not_eq_true'] at hp
    subst hp
    obtain ⟨cs, hcs, h⟩ := bind_world h
    cases h
    exact ⟨rfl, fun _ => by rw [hcs]; rfl⟩
  case lenA n => cases h; exact ⟨rfl, fun _ => rfl⟩
  case pick cc a b =>
    split at h
    · obtain ⟨v, hv, h⟩ := bind_world h; cases h
      exact ⟨rfl, fun _ => by rw [hv]; rfl⟩
    · cases h
  case fld ag off n x =>
    split at h
    · obtain ⟨v, hv, h⟩ := bind_world h; cases h
      exact ⟨rfl, fun _ => by rw [hv]; rfl⟩
    · cases h
  case ext i x =>
    split at h
    · obtain ⟨v, hv, h⟩ := bind_world h; cases h
      exact ⟨rfl, fun _ => by rw [hv]; rfl⟩
    · cases h
  case iaddr sz x i =>
    obtain ⟨v, hv, h⟩ := bind_world h
    obtain ⟨n, hn, h⟩ := bind_world h
    simp only [hv, Option.bind_some, hn]
    split at h
    · split at h
      · rename_i hb
        cases h; exact ⟨rfl, fun _ => if_pos hb⟩
      · cases h
    · split at h
      · rename_i hb
        cases h; exact ⟨rfl, fun _ => if_pos hb⟩
      · cases h
    · cases h
  case iaddrA len sz x i =>
    obtain ⟨v, hv, h⟩ := bind_world h
    obtain ⟨n, hn, h⟩ := bind_world h
    simp only [hv, Option.bind_some, hn]
    split at h
    · split at h
      · rename_i hb
        cases h; exact ⟨rfl, fun _ => if_pos hb⟩
      · cases h
    · split at h
      · rename_i hb
        cases h; exact ⟨rfl, fun _ => if_pos hb⟩
      · cases h
    · cases h
  case idx len ag sz x i =>
    obtain ⟨v, hv, h⟩ := bind_world h
    obtain ⟨n, hn, h⟩ := bind_world h
    simp only [hv, Option.bind_some, hn]
    split at h
    · split at h
      · rename_i hb
        obtain ⟨u, hu, h⟩ := bind_world h; cases h
        exact ⟨rfl, fun _ => by rw [if_pos hb, hu]; rfl⟩
      · cases h
    · cases h
  case idxS x i =>
    obtain ⟨v, hv, h⟩ := bind_world h
    obtain ⟨n, hn, h⟩ := bind_world h
    simp only [hv, Option.bind_some, hn]
    split at h
    · split at h
      · rename_i hb
        obtain ⟨u, hu, h⟩ := bind_world h; cases h
        exact ⟨rfl, fun _ => by rw [if_pos hb, hu]; rfl⟩
      · cases h
    · cases h
  case subS x lo hi =>
    split at h
    · obtain ⟨v1, h1, h⟩ := bind_world h
      obtain ⟨v2, h2, h⟩ := bind_world h
      obtain ⟨v3, h3, h⟩ := bind_world h
      obtain ⟨v4, h4, h⟩ := bind_world h
      simp only [h1, h2, h3, h4, Option.bind_some]
      split at h
      · rename_i hb
        cases h; exact ⟨rfl, fun _ => if_pos hb⟩
      · cases h
    · cases h
  case mkfn g a b =>
    obtain ⟨v1, h1, h⟩ := bind_world h
    obtain ⟨v2, h2, h⟩ := bind_world h
    cases h
    exact ⟨rfl, fun _ => by simp only [h1, h2, Option.bind_some]⟩
  all_goals first
    | (obtain ⟨v, hv, h⟩ := bind_world h; cases h; exact ⟨rfl, fun _ => by rw [hv]; rfl⟩)
    | (split at h <;> first | (cases h; exact ⟨rfl, fun _ => rfl⟩) | cases h)

theorem stepOp_quiet {o : ROp} (hp : o.quiet = true) {e : RX → Option CV} {cw cw' : CW} {c : CV} (h : stepOp o e cw = some (c, cw')) : cw' = cw := by
  by_cases hpp : o.pure = true
  · exact (stepOp_pure hpp h).1
  · cases o <;> simp only [ROp.quiet] at hp <;> first | exact absurd hp hpp | skip
    case load ag n x =>
      simp only [stepOp] at h
      split at h
      · split at h
        · obtain ⟨u, hu, h⟩ := bind_world h; cases h; rfl
        · cases h
      · obtain ⟨u, hu, h⟩ := bind_world h; cases h; rfl
      · cases h
    case b2s x =>
      simp only [stepOp] at h
      obtain ⟨v, hv, h⟩ := bind_world h
      split at h
      · cases h
      · obtain ⟨p, hp, h⟩ := bind_world h
        obtain ⟨l, hl, h⟩ := bind_world h
        cases h; rfl
    case lenM x =>
      simp only [stepOp] at h
      split at h
      · cases h; rfl
      · split at h
        · cases h; rfl
        · cases h
      · cases h
    case look ks z ok x k =>
      simp only [stepOp] at h
      obtain ⟨v1, h1, h⟩ := bind_world h
      obtain ⟨v2, h2, h⟩ := bind_world h
      split at h
      · obtain ⟨v3, h3, h⟩ := bind_world h
        split at h <;> cases h <;> rfl
      · cases h
    case sub sz x lo hi mx =>
      simp only [stepOp] at h
      obtain ⟨v1, h1, h⟩ := bind_world h
      obtain ⟨v2, h2, h⟩ := bind_world h
      obtain ⟨v3, h3, h⟩ := bind_world h
      obtain ⟨v4, h4, h⟩ := bind_world h
      obtain ⟨v5, h5, h⟩ := bind_world h
      split at h
      · obtain ⟨v6, h6, h⟩ := bind_world h
        split at h <;> cases h; rfl
      · obtain ⟨v6, h6, h⟩ := bind_world h
        obtain ⟨v7, h7, h⟩ := bind_world h
        split at h <;> cases h; rfl
      · obtain ⟨v6, h6, h⟩ := bind_world h
        split at h <;> cases h; rfl
      · obtain ⟨v6, h6, h⟩ := bind_world h
        obtain ⟨v7, h7, h⟩ := bind_world h
        split at h <;> cases h; rfl
      · obtain ⟨v6, h6, h⟩ := bind_world h
        split at h
        · cases h
        · split at h
          · split at h <;> cases h; rfl
          · cases h
      · obtain ⟨v6, h6, h⟩ := bind_world h
        obtain ⟨v7, h7, h⟩ := bind_world h
        split at h
        · split at h <;> cases h; rfl
        · cases h
      · cases h

/-! ## Contracts -/
def MonoC (C : Ct) : Prop := ∀ vs cw (Q Q' : CV → CW → Prop), (∀ v cw', Q v cw' → Q' v cw') → C vs cw Q → C vs cw Q'
def FeasC (C : Ct) : Prop := ∀ vs cw (Q : CV → CW → Prop), C vs cw Q → ∃ v cw', Q v cw'
/-- What comes out hangs on the arguments alone, and the world stays. -/
def PureC (C : Ct) : Prop := ∃ F : List CV → CV → Prop, (∀ vs v v', F vs v → F vs v' → v = v') ∧ ∀ vs cw (Q : CV → CW → Prop), C vs cw Q ↔ ∃ v, F vs v ∧ Q v cw

/-- What is promised of each of some, is promised of all. -/
def ConjC (C : Ct) : Prop := ∀ (ι : Type) vs cw (Q : ι → CV → CW → Prop) (_ : ι), (∀ i, C vs cw (Q i)) → C vs cw fun v cw' => ∀ i, Q i v cw'

structure KOk (K : Nat → Ct) (pure : Nat → Bool) : Prop where
  mono : ∀ g, MonoC (K g)
  feas : ∀ g, FeasC (K g)
  conj : ∀ g, ConjC (K g)
  pure : ∀ g, pure g = true → PureC (K g)

variable {K : Nat → Ct} {pure : Nat → Bool}

def EnvEq (ρ ρ' : Env) : Prop := ∀ t, ρ.get t = ρ'.get t

theorem EnvEq.ev {ρ ρ' : Env} (h : EnvEq ρ ρ') : ev ρ = ev ρ' := by
  funext x
  cases x with
  | t n => exact h n
  | c v => rfl

theorem EnvEq.put {ρ ρ' : Env} (h : EnvEq ρ ρ') (d : Option Nat) (v : CV) : EnvEq (ρ.put d v) (ρ'.put d v) := by
  cases d with
  | none => exact h
  | some d =>
    intro t
    simp only [Env.put, Env.get]
    split
    · rfl
    · exact h t

theorem wantedR_eq {ρ ρ' : Env} (h : EnvEq ρ ρ') (g : Option (Nat × Bool)) : wantedR g ρ = wantedR g ρ' := by
  unfold wantedR
  split
  · rfl
  · rw [h]

theorem wpOp_mono (hK : KOk K pure) {o : ROp} {ρ : Env} {cw : CW} {Q Q' : CV → CW → Prop} (h : ∀ v cw', Q v cw' → Q' v cw') (hw : wpOp K o ρ cw Q) : wpOp K o ρ cw Q' := by
  unfold wpOp at *
  split at hw
  · obtain ⟨vs, h1, h2⟩ := hw
    exact ⟨vs, h1, hK.mono _ _ _ _ _ h h2⟩
  · obtain ⟨g, f, c, vs, h1, h2, h3⟩ := hw
    exact ⟨g, f, c, vs, h1, h2, hK.mono _ _ _ _ _ h h3⟩
  · obtain ⟨r, h1, h2⟩ := hw
    exact ⟨r, h1, h _ _ h2⟩

theorem wpOp_env {o : ROp} {ρ ρ' : Env} (h : ∀ x ∈ o.reads, ev ρ x = ev ρ' x) {cw : CW} {Q : CV → CW → Prop} (hw : wpOp K o ρ cw Q) : wpOp K o ρ' cw Q := by
  unfold wpOp at *
  split at hw
  · rename_i g xs
    obtain ⟨vs, h1, h2⟩ := hw
    exact ⟨vs, (evs_congr (xs := xs) (e := ev ρ) (e' := ev ρ') h).symm.trans h1, h2⟩
  · rename_i f xs
    obtain ⟨g, fi, c, vs, h1, h2, h3⟩ := hw
    exact ⟨g, fi, c, vs, by rw [← h f (by simp [ROp.reads])]; exact h1, by rw [← evs_congr fun x hx => h x (by simp [ROp.reads, hx])]; exact h2, h3⟩
  · obtain ⟨r, h1, h2⟩ := hw
    exact ⟨r, by rw [← stepOp_congr h]; exact h1, h2⟩

theorem wpl_eq (hK : KOk K pure) : ∀ (l : List RO) {ρ ρ' : Env} {cw : CW} {Q : Env → CW → Prop}, EnvEq ρ ρ' → (∀ ρ1 ρ2 cw, EnvEq ρ1 ρ2 → Q ρ1 cw → Q ρ2 cw) → wpl K l ρ cw Q → wpl K l ρ' cw Q
  | [], ρ, ρ', cw, Q, h, hQ, hw => hQ _ _ _ h hw
  | o :: l, ρ, ρ', cw, Q, h, hQ, hw => by
    obtain ⟨b, hb, hw⟩ := hw
    refine ⟨b, by rw [← wantedR_eq h]; exact hb, ?_⟩
    cases b
    · exact wpl_eq hK l (h.put _ _) hQ hw
    · exact wpOp_mono hK (fun v cw' hv => wpl_eq hK l (h.put _ _) hQ hv) (wpOp_env (fun x _ => by rw [h.ev]) hw)

/-! ## Two that stand side by side -/
def RX.slot : RX → Option Nat
  | .t n => some n
  | .c _ => none

def RO.slots (r : RO) : List Nat := r.op.reads.filterMap RX.slot ++ (match r.guard with | some (t, _) => [t] | none => [])

def RO.isPure (pure : Nat → Bool) (r : RO) : Bool :=
  match r.op with
  | .call g _ => pure g
  | o => o.pure

/-- May they change places? -/
def indep (pure : Nat → Bool) (x y : RO) : Bool :=
  (x.isPure pure || y.isPure pure || (x.op.quiet && y.op.quiet)) &&
  (match x.dst with | some d => !y.slots.contains d && y.dst != some d | none => true) &&
  (match y.dst with | some d => !x.slots.contains d | none => true)

theorem ev_put {ρ : Env} {d : Option Nat} {v : CV} {x : RX} (h : ∀ n, d = some n → x.slot ≠ some n) : ev (ρ.put d v) x = ev ρ x := by
  cases d with
  | none => rfl
  | some n =>
    cases x with
    | c u => rfl
    | t m =>
      have : n ≠ m := fun e => h n rfl (by rw [e]; rfl)
      simp [ev, Env.put, Env.get, this]

theorem put_comm {ρ : Env} {d d' : Option Nat} {v v' : CV} (h : ∀ n, d = some n → d' ≠ some n) : EnvEq ((ρ.put d v).put d' v') ((ρ.put d' v').put d v) := by
  intro t
  cases d with
  | none => rfl
  | some n =>
    cases d' with
    | none => rfl
    | some m =>
      have hne : m ≠ n := fun e => h n rfl (by rw [e])
      simp only [Env.put, Env.get]
      by_cases h1 : m = t
      · by_cases h2 : n = t
        · omega
        · rw [if_pos h1, if_neg h2, if_pos h1]
      · rw [if_neg h1]
        by_cases h2 : n = t
        · rw [if_pos h2, if_pos h2]
        · rw [if_neg h2, if_neg h2, if_neg h1]

theorem indep_spec {x y : RO} (h : indep pure x y = true) : (x.isPure pure = true ∨ y.isPure pure = true ∨ (x.op.quiet = true ∧ y.op.quiet = true)) ∧
    (∀ d, x.dst = some d → d ∉ y.slots) ∧ (∀ d, x.dst = some d → y.dst ≠ some d) ∧ (∀ d, y.dst = some d → d ∉ x.slots) := by
  unfold indep at h
  simp only [Bool.and_eq_true, Bool.or_eq_true] at h
  obtain ⟨⟨h1, h2⟩, h3⟩ := h
  refine ⟨by rcases h1 with (h | h) | h; exact .inl h; exact .inr (.inl h); exact .inr (.inr h), fun d hd => ?_, fun d hd => ?_, fun d hd => ?_⟩
  · rw [hd] at h2; simp at h2; exact h2.1
  · rw [hd] at h2; simp at h2; exact h2.2
  · rw [hd] at h3; simp at h3; exact h3

theorem not_slot {r : RO} {d : Nat} (h : d ∉ r.slots) {x : RX} (hx : x ∈ r.op.reads) : x.slot ≠ some d := by
  intro e
  refine h ?_
  unfold RO.slots
  refine List.mem_append.2 (.inl (List.mem_filterMap.2 ⟨x, hx, e⟩))

theorem wanted_put {r : RO} {ρ : Env} {d : Option Nat} {v : CV} (h : ∀ n, d = some n → n ∉ r.slots) : wantedR r.guard (ρ.put d v) = wantedR r.guard ρ := by
  unfold wantedR
  split
  · rfl
  · rename_i t want hg
    have : ev (ρ.put d v) (.t t) = ev ρ (.t t) := ev_put fun n hn e => h n hn (by
      unfold RO.slots
      rw [hg]
      simp [RX.slot] at e
      simp [e])
    simp only [ev] at this
    rw [this]

/-- One that hangs on its operands alone, and leaves the world. -/
theorem wpOp_pure {r : RO} (hK : KOk K pure) (hp : r.isPure pure = true) : ∃ F : Env → CV → Prop, (∀ ρ v v', F ρ v → F ρ v' → v = v') ∧
    (∀ ρ cw Q, wpOp K r.op ρ cw Q ↔ ∃ v, F ρ v ∧ Q v cw) ∧ ∀ ρ ρ', (∀ x ∈ r.op.reads, ev ρ x = ev ρ' x) → ∀ v, F ρ v → F ρ' v := by
  obtain ⟨dst, op, g, af⟩ := r
  have nocall : (∀ f xs, op ≠ .call f xs) → op.pure = true → ∃ F : Env → CV → Prop, (∀ ρ v v', F ρ v → F ρ v' → v = v') ∧
    (∀ ρ cw Q, wpOp K op ρ cw Q ↔ ∃ v, F ρ v ∧ Q v cw) ∧ ∀ ρ ρ', (∀ x ∈ op.reads, ev ρ x = ev ρ' x) → ∀ v, F ρ v → F ρ' v := by
    intro hc hp
    have hcv : ∀ f xs, op ≠ .callv f xs := by rintro f xs rfl; simp [ROp.pure] at hp
    have hwp : ∀ ρ cw Q, wpOp K op ρ cw Q ↔ ∃ r, stepOp op (ev ρ) cw = some r ∧ Q r.1 r.2 := by
      intro ρ cw Q
      unfold wpOp
      split
      · exact absurd rfl (hc _ _)
      · exact absurd rfl (hcv _ _)
      · exact Iff.rfl
    refine ⟨fun ρ v => ∀ cw, stepOp op (ev ρ) cw = some (v, cw), fun ρ v v' h1 h2 => ?_, fun ρ cw Q => ?_, fun ρ ρ' h v hv cw => by rw [← stepOp_congr h]; exact hv cw⟩
    · have a := h1 ⟨fun _ => none, 0⟩
      have b := h2 ⟨fun _ => none, 0⟩
      rw [a] at b
      cases b; rfl
    · rw [hwp]
      constructor
      · rintro ⟨⟨v, cw'⟩, h1, h2⟩
        obtain ⟨rfl, h3⟩ := stepOp_pure hp h1
        exact ⟨v, h3, h2⟩
      · rintro ⟨v, h1, h2⟩
        exact ⟨(v, cw), h1 cw, h2⟩
  cases op
  case call gg xs =>
    obtain ⟨F, f1, f2⟩ := hK.pure gg hp
    refine ⟨fun ρ v => ∃ vs, evs (ev ρ) xs = some vs ∧ F vs v, ?_, ?_, ?_⟩
    · rintro ρ v v' ⟨vs, h1, h2⟩ ⟨vs', h3, h4⟩
      rw [h1] at h3; cases h3
      exact f1 vs v v' h2 h4
    · intro ρ cw Q
      constructor
      · rintro ⟨vs, h1, h2⟩
        obtain ⟨v, h3, h4⟩ := (f2 vs cw Q).1 h2
        exact ⟨v, ⟨vs, h1, h3⟩, h4⟩
      · rintro ⟨v, ⟨vs, h1, h3⟩, h4⟩
        exact ⟨vs, h1, (f2 vs cw Q).2 ⟨v, h3, h4⟩⟩
    · rintro ρ ρ' h v ⟨vs, h1, h2⟩
      exact ⟨vs, (evs_congr (xs := xs) (e := ev ρ) (e' := ev ρ') h).symm.trans h1, h2⟩
  all_goals exact nocall (by simp) hp

theorem wpOp_feas (hK : KOk K pure) {o : ROp} {ρ : Env} {cw : CW} {Q : CV → CW → Prop} (h : wpOp K o ρ cw Q) : ∃ v cw', Q v cw' := by
  unfold wpOp at h
  split at h
  · obtain ⟨vs, _, h⟩ := h; exact hK.feas _ _ _ _ h
  · obtain ⟨g, f, c, vs, _, _, h⟩ := h; exact hK.feas _ _ _ _ h
  · obtain ⟨r, _, h⟩ := h; exact ⟨_, _, h⟩

/-- What stands with the guard: the operation, or nothing. -/
def wpG (K : Nat → Ct) (o : RO) (ρ : Env) (cw : CW) (Q : CV → CW → Prop) : Prop :=
  ∃ b, wantedR o.guard ρ = some b ∧ (if b then wpOp K o.op ρ cw Q else Q (.tup []) cw)

theorem wpl_cons {o : RO} {l : List RO} {ρ : Env} {cw : CW} {Q : Env → CW → Prop} : wpl K (o :: l) ρ cw Q ↔ wpG K o ρ cw fun v cw' => wpl K l (ρ.put o.dst v) cw' Q := by
  constructor
  · rintro ⟨b, hb, h⟩
    refine ⟨b, hb, ?_⟩
    cases b
    · exact h
    · exact h
  · rintro ⟨b, hb, h⟩
    refine ⟨b, hb, ?_⟩
    cases b
    · exact h
    · exact h

theorem wpG_mono (hK : KOk K pure) {o : RO} {ρ : Env} {cw : CW} {Q Q' : CV → CW → Prop} (h : ∀ v cw', Q v cw' → Q' v cw') (hw : wpG K o ρ cw Q) : wpG K o ρ cw Q' := by
  obtain ⟨b, hb, hw⟩ := hw
  refine ⟨b, hb, ?_⟩
  cases b
  · exact h _ _ hw
  · exact wpOp_mono hK h hw

theorem wpG_feas (hK : KOk K pure) {o : RO} {ρ : Env} {cw : CW} {Q : CV → CW → Prop} (h : wpG K o ρ cw Q) : ∃ v cw', Q v cw' := by
  obtain ⟨b, hb, h⟩ := h
  cases b
  · exact ⟨_, _, h⟩
  · exact wpOp_feas hK h

theorem wpG_put {o : RO} {ρ : Env} {d : Option Nat} {v : CV} (h : ∀ n, d = some n → n ∉ o.slots) {cw : CW} {Q : CV → CW → Prop} : wpG K o (ρ.put d v) cw Q ↔ wpG K o ρ cw Q := by
  have hr : ∀ x ∈ o.op.reads, ev (ρ.put d v) x = ev ρ x := fun x hx => ev_put fun n hn => not_slot (h n hn) hx
  unfold wpG
  rw [wanted_put h]
  constructor
  · rintro ⟨b, hb, hw⟩
    refine ⟨b, hb, ?_⟩
    cases b
    · exact hw
    · exact wpOp_env hr hw
  · rintro ⟨b, hb, hw⟩
    refine ⟨b, hb, ?_⟩
    cases b
    · exact hw
    · exact wpOp_env (fun x hx => (hr x hx).symm) hw

/-- A pure one, with its guard. -/
theorem wpG_pure {r : RO} (hK : KOk K pure) (hp : r.isPure pure = true) : ∃ F : Env → CV → Prop, (∀ ρ v v', F ρ v → F ρ v' → v = v') ∧ (∀ ρ cw Q, wpG K r ρ cw Q ↔ ∃ v, F ρ v ∧ Q v cw) := by
  obtain ⟨F, f1, f2, f3⟩ := wpOp_pure hK hp
  refine ⟨fun ρ v => ∃ b, wantedR r.guard ρ = some b ∧ (if b then F ρ v else v = .tup []), ?_, ?_⟩
  · rintro ρ v v' ⟨b, hb, h⟩ ⟨b', hb', h'⟩
    rw [hb] at hb'; cases hb'
    cases b
    · exact h.trans h'.symm
    · exact f1 ρ v v' h h'
  · intro ρ cw Q
    constructor
    · rintro ⟨b, hb, h⟩
      cases b
      · exact ⟨_, ⟨false, hb, rfl⟩, h⟩
      · obtain ⟨v, h1, h2⟩ := (f2 ρ cw Q).1 h
        exact ⟨v, ⟨true, hb, h1⟩, h2⟩
    · rintro ⟨v, ⟨b, hb, h1⟩, h2⟩
      refine ⟨b, hb, ?_⟩
      cases b
      · cases h1; exact h2
      · exact (f2 ρ cw Q).2 ⟨v, h1, h2⟩

/-- One that leaves the world. -/
theorem wpG_quiet {r : RO} (hp : r.op.quiet = true) {ρ : Env} {cw : CW} {Q : CV → CW → Prop} : wpG K r ρ cw Q ↔ ∃ v, (∃ b, wantedR r.guard ρ = some b ∧ (if b then stepOp r.op (ev ρ) cw = some (v, cw) else v = .tup [])) ∧ Q v cw := by
  have hwp : ∀ Q, wpOp K r.op ρ cw Q ↔ ∃ x, stepOp r.op (ev ρ) cw = some x ∧ Q x.1 x.2 := by
    intro Q
    unfold wpOp
    split
    · rename_i h; rw [h] at hp; simp [ROp.quiet, ROp.pure] at hp
    · rename_i h; rw [h] at hp; simp [ROp.quiet, ROp.pure] at hp
    · exact Iff.rfl
  constructor
  · rintro ⟨b, hb, h⟩
    cases b
    · exact ⟨_, ⟨false, hb, rfl⟩, h⟩
    · obtain ⟨⟨v, cw'⟩, h1, h2⟩ := (hwp Q).1 h
      cases stepOp_quiet hp h1
      exact ⟨v, ⟨true, hb, h1⟩, h2⟩
  · rintro ⟨v, ⟨b, hb, h1⟩, h2⟩
    refine ⟨b, hb, ?_⟩
    cases b
    · cases h1; exact h2
    · exact (hwp Q).2 ⟨(v, cw), h1, h2⟩

theorem wpl_swap (hK : KOk K pure) {x y : RO} {l : List RO} {ρ : Env} {cw : CW} {Q : Env → CW → Prop} (hi : indep pure x y = true) (hQ : ∀ ρ1 ρ2 cw, EnvEq ρ1 ρ2 → Q ρ1 cw → Q ρ2 cw)
    (h : wpl K (x :: y :: l) ρ cw Q) : wpl K (y :: x :: l) ρ cw Q := by
  obtain ⟨hc, h1, h2, h3⟩ := indep_spec hi
  rw [wpl_cons] at h ⊢
  have hy : ∀ v cw' Q', wpG K y (ρ.put x.dst v) cw' Q' ↔ wpG K y ρ cw' Q' := fun v cw' Q' => wpG_put h1
  have hx : ∀ v cw' Q', wpG K x (ρ.put y.dst v) cw' Q' ↔ wpG K x ρ cw' Q' := fun v cw' Q' => wpG_put h3
  have hend : ∀ vx vy cw', wpl K l ((ρ.put x.dst vx).put y.dst vy) cw' Q → wpl K l ((ρ.put y.dst vy).put x.dst vx) cw' Q := fun vx vy cw' hw => wpl_eq hK l (put_comm h2) hQ hw
  have h' : wpG K x ρ cw fun vx cw' => wpG K y ρ cw' fun vy cw'' => wpl K l ((ρ.put y.dst vy).put x.dst vx) cw'' Q :=
    wpG_mono hK (fun vx cw' hw => by
      rw [wpl_cons, hy] at hw
      exact wpG_mono hK (fun vy cw'' hv => hend vx vy cw'' hv) hw) h
  have goal : (wpG K y ρ cw fun vy cw' => wpG K x ρ cw' fun vx cw'' => wpl K l ((ρ.put y.dst vy).put x.dst vx) cw'' Q) → wpG K y ρ cw fun vy cw' => wpl K (x :: l) (ρ.put y.dst vy) cw' Q :=
    wpG_mono hK fun vy cw' hw => by rw [wpl_cons, hx]; exact hw
  refine goal ?_
  rcases hc with hc | hc | ⟨hc1, hc2⟩
  · obtain ⟨F, f1, f2⟩ := wpG_pure hK hc
    rw [f2] at h'
    obtain ⟨vx, hvx, hw⟩ := h'
    exact wpG_mono hK (fun vy cw' hv => (f2 _ _ _).2 ⟨vx, hvx, hv⟩) hw
  · obtain ⟨F, f1, f2⟩ := wpG_pure hK hc
    have h'' : wpG K x ρ cw fun vx cw' => ∃ vy, F ρ vy ∧ wpl K l ((ρ.put y.dst vy).put x.dst vx) cw' Q := wpG_mono hK (fun vx cw' hv => (f2 _ _ _).1 hv) h'
    obtain ⟨_, _, vy, hvy, _⟩ := wpG_feas hK h''
    refine (f2 _ _ _).2 ⟨vy, hvy, wpG_mono hK (fun vx cw' hv => ?_) h''⟩
    obtain ⟨vy', hvy', hv⟩ := hv
    cases f1 _ _ _ hvy hvy'
    exact hv
  · rw [wpG_quiet hc1] at h'
    obtain ⟨vx, hvx, hw⟩ := h'
    rw [wpG_quiet hc2] at hw ⊢
    obtain ⟨vy, hvy, hw⟩ := hw
    exact ⟨vy, hvy, (wpG_quiet hc1).2 ⟨vx, hvx, hw⟩⟩

/-- One that hangs on none of those ahead may go first. -/
theorem wpl_front (hK : KOk K pure) {y : RO} {l : List RO} {Q : Env → CW → Prop} (hQ : ∀ ρ1 ρ2 cw, EnvEq ρ1 ρ2 → Q ρ1 cw → Q ρ2 cw) : ∀ (js : List RO) {ρ : Env} {cw : CW}, (∀ x ∈ js, indep pure x y = true) →
    wpl K (js ++ y :: l) ρ cw Q → wpl K (y :: (js ++ l)) ρ cw Q
  | [], _, _, _, h => h
  | x :: js, ρ, cw, hi, h => by
    have hrest : wpl K (x :: (y :: (js ++ l))) ρ cw Q := by
      rw [List.cons_append, wpl_cons] at h
      rw [wpl_cons]
      exact wpG_mono hK (fun v cw' hv => wpl_front hK hQ js (fun z hz => hi z (by simp [hz])) hv) h
    exact wpl_swap hK (hi x (by simp)) hQ hrest

end Go.Cs
