/- How a weakest precondition of the canonical machine is reckoned: rules for the simplifier, which go from the front to the back; what is yet to come is told as data. -/
import Derived.Test.YtopnfbffcggnmaaDoorCsFn
import Derived.IntWalk
namespace Go.Cs

theorem wrap_i64 {n : Int} (h1 : -9223372036854775808 ≤ n) (h2 : n ≤ 9223372036854775807) : IntKind.wrap .i64 n = n := by
  rw [IntKind.wrap_i64]; omega

/-- What is yet to come. -/
inductive Fr where
  | code (c : RC)
  | blk (id : Nat)
  | hook (n : Env → CW → Prop)

def post (K : Nat → Ct) (Q : RE → Env → CW → Prop) : List Fr → RE → Env → CW → Prop
  | [] => Q
  | .code c :: s => seqQ (fun ρ cw => wpc K c ρ cw (post K Q s)) (post K Q s)
  | .blk id :: s => blkQ id (post K Q s)
  | .hook n :: s => seqQ n (post K Q s)

def wpk (K : Nat → Ct) (Q : RE → Env → CW → Prop) (c : RC) (s : List Fr) (ρ : Env) (cw : CW) : Prop := wpc K c ρ cw (post K Q s)
def nxt (K : Nat → Ct) (Q : RE → Env → CW → Prop) (s : List Fr) (ρ : Env) (cw : CW) : Prop := post K Q s .nx ρ cw
def ext (K : Nat → Ct) (Q : RE → Env → CW → Prop) (i : Nat) (s : List Fr) (ρ : Env) (cw : CW) : Prop := post K Q s (.exit i) ρ cw
def wpo (K : Nat → Ct) (Q : RE → Env → CW → Prop) (ops : List RO) (l : List Nat) (s : List Fr) (ρ : Env) (cw : CW) : Prop := wpl K ops ρ cw fun ρ' cw' => post K Q s .nx (ρ'.keep (some l)) cw'
def wpr (K : Nat → Ct) (Q : RE → Env → CW → Prop) (res : Option (CV × CW)) (d : Option Nat) (r : List RO) (l : List Nat) (s : List Fr) (ρ : Env) : Prop := ∃ x, res = some x ∧ wpo K Q r l s (ρ.put d x.1) x.2
def wpa (K : Nat → Ct) (Q : RE → Env → CW → Prop) (g : Nat) (vs : Option (List CV)) (d : Option Nat) (r : List RO) (l : List Nat) (s : List Fr) (ρ : Env) (cw : CW) : Prop :=
  ∃ x, vs = some x ∧ K g x cw fun v cw' => wpo K Q r l s (ρ.put d v) cw'
def wpif (K : Nat → Ct) (Q : RE → Env → CW → Prop) (b : Option Bool) (o : RO) (r : List RO) (l : List Nat) (s : List Fr) (ρ : Env) (cw : CW) : Prop :=
  ∃ x, b = some x ∧ if x then wpo K Q ({ o with guard := none } :: r) l s ρ cw else wpo K Q r l s (ρ.put o.dst (.tup [])) cw
def wpb (K : Nat → Ct) (Q : RE → Env → CW → Prop) (v : Option CV) (a b : RC) (s : List Fr) (ρ : Env) (cw : CW) : Prop :=
  ∃ t, v = some (.bool t) ∧ if t then wpk K Q a s ρ cw else wpk K Q b s ρ cw

section
variable {K : Nat → Ct} {Q : RE → Env → CW → Prop}

@[go_sem] theorem wpk_skip (s : List Fr) (ρ : Env) (cw : CW) : wpk K Q .skip s ρ cw = nxt K Q s ρ cw := rfl
@[go_sem] theorem wpk_label (i : Nat) (s : List Fr) (ρ : Env) (cw : CW) : wpk K Q (.label i) s ρ cw = nxt K Q s ρ cw := rfl
@[go_sem] theorem wpk_exit (i : Nat) (s : List Fr) (ρ : Env) (cw : CW) : wpk K Q (.exit i) s ρ cw = ext K Q i s ρ cw := rfl
theorem post_ret : ∀ (s : List Fr) (ρ : Env) (cw : CW), post K Q s .ret ρ cw = Q .ret ρ cw
  | [], _, _ => rfl
  | .code _ :: s, ρ, cw => post_ret s ρ cw
  | .blk _ :: s, ρ, cw => post_ret s ρ cw
  | .hook _ :: s, ρ, cw => post_ret s ρ cw
@[go_sem] theorem wpk_ret (s : List Fr) (ρ : Env) (cw : CW) : wpk K Q .ret s ρ cw = Q .ret ρ cw := post_ret s ρ cw
@[go_sem] theorem wpk_seq (a b : RC) (s : List Fr) (ρ : Env) (cw : CW) : wpk K Q (.seq a b) s ρ cw = wpk K Q a (.code b :: s) ρ cw := rfl
@[go_sem] theorem wpk_block (i : Nat) (c : RC) (s : List Fr) (ρ : Env) (cw : CW) : wpk K Q (.block i c) s ρ cw = wpk K Q c (.blk i :: s) ρ cw := rfl
@[go_sem] theorem wpk_scope (c : RC) (s : List Fr) (ρ : Env) (cw : CW) : wpk K Q (.scope c) s ρ cw = wpk K Q c s ρ cw := rfl
@[go_sem] theorem wpk_cond (x : RX) (a b : RC) (s : List Fr) (ρ : Env) (cw : CW) : wpk K Q (.cond x a b) s ρ cw = wpb K Q (ev ρ x) a b s ρ cw := rfl
@[go_sem] theorem wpb_true (a b : RC) (s : List Fr) (ρ : Env) (cw : CW) : wpb K Q (some (.bool true)) a b s ρ cw = wpk K Q a s ρ cw := by simp [wpb]
@[go_sem] theorem wpb_false (a b : RC) (s : List Fr) (ρ : Env) (cw : CW) : wpb K Q (some (.bool false)) a b s ρ cw = wpk K Q b s ρ cw := by simp [wpb]
theorem wpb_of {t : Bool} {a b : RC} {s : List Fr} {ρ : Env} {cw : CW} (h1 : t = true → wpk K Q a s ρ cw) (h2 : t = false → wpk K Q b s ρ cw) : wpb K Q (some (.bool t)) a b s ρ cw := by
  cases t
  · exact ⟨_, rfl, h2 rfl⟩
  · exact ⟨_, rfl, h1 rfl⟩
@[go_sem] theorem wpk_region (ops : List RO) (d : Bool) (l : List Nat) (s : List Fr) (ρ : Env) (cw : CW) : wpk K Q (.region ops d (some l)) s ρ cw = wpo K Q ops l s ρ cw := rfl
@[go_sem] theorem nxt_nil (ρ : Env) (cw : CW) : nxt K Q [] ρ cw = Q .nx ρ cw := rfl
@[go_sem] theorem nxt_code (c : RC) (s : List Fr) (ρ : Env) (cw : CW) : nxt K Q (.code c :: s) ρ cw = wpk K Q c s ρ cw := rfl
@[go_sem] theorem nxt_blk (i : Nat) (s : List Fr) (ρ : Env) (cw : CW) : nxt K Q (.blk i :: s) ρ cw = nxt K Q s ρ cw := rfl
@[go_sem] theorem nxt_hook (n : Env → CW → Prop) (s : List Fr) (ρ : Env) (cw : CW) : nxt K Q (.hook n :: s) ρ cw = n ρ cw := rfl
@[go_sem] theorem ext_nil (i : Nat) (ρ : Env) (cw : CW) : ext K Q i [] ρ cw = Q (.exit i) ρ cw := rfl
@[go_sem] theorem ext_code (i : Nat) (c : RC) (s : List Fr) (ρ : Env) (cw : CW) : ext K Q i (.code c :: s) ρ cw = ext K Q i s ρ cw := rfl
@[go_sem] theorem ext_blk (i j : Nat) (s : List Fr) (ρ : Env) (cw : CW) : ext K Q i (.blk j :: s) ρ cw = if i = j then nxt K Q s ρ cw else ext K Q i s ρ cw := rfl
@[go_sem] theorem ext_hook (i : Nat) (n : Env → CW → Prop) (s : List Fr) (ρ : Env) (cw : CW) : ext K Q i (.hook n :: s) ρ cw = ext K Q i s ρ cw := rfl
/-- What is kept of an environment. -/
def keepL (ρ : Env) : List Nat → Env
  | [] => []
  | t :: l => match Env.get ρ t with
    | some v => (t, v) :: keepL ρ l
    | none => keepL ρ l
theorem keepL_eq (ρ : Env) (l : List Nat) : ρ.keep (some l) = keepL ρ l := by
  simp only [Env.keep]
  induction l with
  | nil => rfl
  | cons t l ih =>
    simp only [List.filterMap_cons, keepL]
    cases Env.get ρ t <;> simp [ih]
@[go_sem] theorem keepL_nil (ρ : Env) : keepL ρ [] = [] := rfl
def keep1 (t : Nat) (v : Option CV) (r : Env) : Env := match v with | some v => (t, v) :: r | none => r
@[go_sem] theorem keepL_cons (ρ : Env) (t : Nat) (l : List Nat) : keepL ρ (t :: l) = keep1 t (Env.get ρ t) (keepL ρ l) := by
  simp only [keepL, keep1]
@[go_sem] theorem keep1_some (t : Nat) (v : CV) (r : Env) : keep1 t (some v) r = (t, v) :: r := rfl
@[go_sem] theorem keep1_none (t : Nat) (r : Env) : keep1 t none r = r := rfl
@[go_sem] theorem wpo_nil (l : List Nat) (s : List Fr) (ρ : Env) (cw : CW) : wpo K Q [] l s ρ cw = nxt K Q s (keepL ρ l) cw := by
  simp only [wpo, wpl, nxt, keepL_eq]
@[go_sem] theorem wpr_some (v : CV) (cw : CW) (d : Option Nat) (r : List RO) (l : List Nat) (s : List Fr) (ρ : Env) : wpr K Q (some (v, cw)) d r l s ρ = wpo K Q r l s (ρ.put d v) cw := by simp [wpr]
@[go_sem] theorem wpo_if (d : Option Nat) (op : ROp) (g : Nat × Bool) (af : List Nat) (r : List RO) (l : List Nat) (s : List Fr) (ρ : Env) (cw : CW) :
    wpo K Q (⟨d, op, some g, af⟩ :: r) l s ρ cw = wpif K Q (wantedR (some g) ρ) ⟨d, op, some g, af⟩ r l s ρ cw := by simp [wpo, wpif, wpl, wantedR]
@[go_sem] theorem wpif_true (d : Option Nat) (op : ROp) (g : Option (Nat × Bool)) (af : List Nat) (r : List RO) (l : List Nat) (s : List Fr) (ρ : Env) (cw : CW) :
    wpif K Q (some true) ⟨d, op, g, af⟩ r l s ρ cw = wpo K Q (⟨d, op, none, af⟩ :: r) l s ρ cw := by simp [wpif]
@[go_sem] theorem wpif_false (d : Option Nat) (op : ROp) (g : Option (Nat × Bool)) (af : List Nat) (r : List RO) (l : List Nat) (s : List Fr) (ρ : Env) (cw : CW) :
    wpif K Q (some false) ⟨d, op, g, af⟩ r l s ρ cw = wpo K Q r l s (ρ.put d (.tup [])) cw := by simp [wpif]
theorem wpif_of {t : Bool} {d : Option Nat} {op : ROp} {g : Option (Nat × Bool)} {af : List Nat} {r : List RO} {l : List Nat} {s : List Fr} {ρ : Env} {cw : CW}
    (h1 : t = true → wpo K Q (⟨d, op, none, af⟩ :: r) l s ρ cw) (h2 : t = false → wpo K Q r l s (ρ.put d (.tup [])) cw) : wpif K Q (some t) ⟨d, op, g, af⟩ r l s ρ cw := by
  cases t
  · exact ⟨_, rfl, h2 rfl⟩
  · exact ⟨_, rfl, h1 rfl⟩
@[go_sem] theorem wpo_call (d : Option Nat) (g : Nat) (xs : List RX) (af : List Nat) (r : List RO) (l : List Nat) (s : List Fr) (ρ : Env) (cw : CW) :
    wpo K Q (⟨d, .call g xs, none, af⟩ :: r) l s ρ cw = wpa K Q g (evs (ev ρ) xs) d r l s ρ cw := by simp [wpo, wpa, wpl, wantedR, wpOp]

def wpcv (K : Nat → Ct) (Q : RE → Env → CW → Prop) (f : Option CV) (vs : Option (List CV)) (d : Option Nat) (r : List RO) (l : List Nat) (s : List Fr) (ρ : Env) (cw : CW) : Prop :=
  ∃ g first caps xs, f = some (.fn g first caps) ∧ vs = some xs ∧ K g (first ++ xs ++ caps) cw fun v cw' => wpo K Q r l s (ρ.put d v) cw'
@[go_sem] theorem wpo_callv (d : Option Nat) (f : RX) (xs : List RX) (af : List Nat) (r : List RO) (l : List Nat) (s : List Fr) (ρ : Env) (cw : CW) :
    wpo K Q (⟨d, .callv f xs, none, af⟩ :: r) l s ρ cw = wpcv K Q (ev ρ f) (evs (ev ρ) xs) d r l s ρ cw := by simp [wpo, wpcv, wpl, wantedR, wpOp]
@[go_sem] theorem wpcv_fn (g : Nat) (first caps vs : List CV) (d : Option Nat) (r : List RO) (l : List Nat) (s : List Fr) (ρ : Env) (cw : CW) :
    wpcv K Q (some (.fn g first caps)) (some vs) d r l s ρ cw = wpa K Q g (some (first ++ vs ++ caps)) d r l s ρ cw := by
  simp only [wpcv, wpa, Option.some.injEq, CV.fn.injEq]
  apply propext
  constructor
  · rintro ⟨_, _, _, _, ⟨rfl, rfl, rfl⟩, rfl, h⟩
    exact ⟨_, rfl, h⟩
  · rintro ⟨_, rfl, h⟩
    exact ⟨_, _, _, _, ⟨rfl, rfl, rfl⟩, rfl, h⟩

/-! ## Contracts -/
/-- A contract that is a function of the arguments alone. -/
def pureC (F : List CV → Option CV) : Ct := fun args cw Q => ∃ v, F args = some v ∧ Q v cw
def wpv (K : Nat → Ct) (Q : RE → Env → CW → Prop) (v : Option CV) (d : Option Nat) (r : List RO) (l : List Nat) (s : List Fr) (ρ : Env) (cw : CW) : Prop := ∃ x, v = some x ∧ wpo K Q r l s (ρ.put d x) cw
theorem wpa_pure {g : Nat} {F : List CV → Option CV} (h : K g = pureC F) (vs : List CV) (d : Option Nat) (r : List RO) (l : List Nat) (s : List Fr) (ρ : Env) (cw : CW) :
    wpa K Q g (some vs) d r l s ρ cw = wpv K Q (F vs) d r l s ρ cw := by simp [wpa, wpv, h, pureC]
@[go_sem] theorem wpv_some (v : CV) (d : Option Nat) (r : List RO) (l : List Nat) (s : List Fr) (ρ : Env) (cw : CW) : wpv K Q (some v) d r l s ρ cw = wpo K Q r l s (ρ.put d v) cw := by simp [wpv]
/-- A contract that is a function of the arguments and the world. -/
def effC (F : List CV → CW → Option (CV × CW)) : Ct := fun args cw Q => ∃ r, F args cw = some r ∧ Q r.1 r.2
theorem wpa_eff {g : Nat} {F : List CV → CW → Option (CV × CW)} (h : K g = effC F) (vs : List CV) (d : Option Nat) (r : List RO) (l : List Nat) (s : List Fr) (ρ : Env) (cw : CW) :
    wpa K Q g (some vs) d r l s ρ cw = wpr K Q (F vs cw) d r l s ρ := by simp [wpa, wpr, h, effC]

@[go_sem] theorem push_get (cw : CW) (o : CO) (b : Nat) : (cw.push o).get b = if b = cw.next then some o else cw.get b := rfl
@[go_sem] theorem push_next (cw : CW) (o : CO) : (cw.push o).next = cw.next + 1 := rfl
@[go_sem] theorem set_get (cw : CW) (o : CO) (b c : Nat) : (cw.set b o).get c = if c = b then some o else cw.get c := rfl
@[go_sem] theorem set_next (cw : CW) (o : CO) (b : Nat) : (cw.set b o).next = cw.next := rfl
@[go_sem] theorem kill_get (cw : CW) (b c : Nat) : (cw.kill b).get c = if c = b then none else cw.get c := rfl
@[go_sem] theorem kill_next (cw : CW) (b : Nat) : (cw.kill b).next = cw.next := rfl
theorem push_old {cw : CW} {o : CO} {b : Nat} (h : b ≠ cw.next) : (cw.push o).get b = cw.get b := if_neg h
theorem set_old {cw : CW} {o : CO} {b c : Nat} (h : b ≠ c) : (cw.set c o).get b = cw.get b := if_neg h
theorem kill_old {cw : CW} {b c : Nat} (h : b ≠ c) : (cw.kill c).get b = cw.get b := if_neg h
@[go_sem] theorem env_put_some (ρ : Env) (d : Nat) (v : CV) : ρ.put (some d) v = (d, v) :: ρ := rfl
@[go_sem] theorem env_put_none (ρ : Env) (v : CV) : ρ.put none v = ρ := rfl
@[go_sem] theorem env_get (i t : Nat) (v : CV) (r : Env) : Env.get ((i, v) :: r) t = if i = t then some v else Env.get r t := rfl
@[go_sem] theorem env_get_nil (t : Nat) : Env.get [] t = none := rfl
@[go_sem] theorem ev_t (ρ : Env) (t : Nat) : ev ρ (.t t) = Env.get ρ t := rfl
@[go_sem] theorem ev_c (ρ : Env) (v : CV) : ev ρ (.c v) = some v := rfl

/-! ## Loops, and whole functions -/
theorem wpk_loop {c : RC} {s : List Fr} {ρ : Env} {cw : CW} (I : Nat → Env → CW → Prop) (m : Nat) (h0 : I m ρ cw)
    (h : ∀ m ρ cw (N : Env → CW → Prop), I m ρ cw → (∀ m' ρ' cw', m' < m → I m' ρ' cw' → N ρ' cw') → wpk K Q c (.hook N :: s) ρ cw) : wpk K Q (.loop c) s ρ cw := by
  have key : ∀ k m ρ cw, m ≤ k → I m ρ cw → loopN (wpc K c) (k + 1) ρ cw (post K Q s) := by
    intro k
    induction k with
    | zero =>
      intro m ρ cw hm hi
      exact h m ρ cw (fun ρ' cw' => loopN (wpc K c) 0 ρ' cw' (post K Q s)) hi fun m' ρ' cw' hlt _ => absurd hlt (by omega)
    | succ k ih =>
      intro m ρ cw hm hi
      exact h m ρ cw (fun ρ' cw' => loopN (wpc K c) (k + 1) ρ' cw' (post K Q s)) hi fun m' ρ' cw' hlt hi' => ih m' ρ' cw' (by omega) hi'
  exact ⟨m + 1, key m m ρ cw (Nat.le_refl _) h0⟩

/-- A function's run. -/
def Runs (K : Nat → Ct) (f : RF) (args : List CV) (cw : CW) (v : CV) : Prop :=
  ∀ Q : RE → Env → CW → Prop, (∀ e ρ' cw' v', (e = .nx ∨ e = .ret) → resV cw' ρ' f.rs = some v' → Frz cw.next cw' v' v → (∀ b, b < cw.next → cw'.get b = cw.get b) → Q e ρ' cw') →
    wpk K Q f.body [] (numb 0 args) cw

theorem wpF_pure {f : RF} {F : List CV → Option CV} (h : ∀ args v, F args = some v → args.length = f.np ∧ ∀ cw, Runs K f args cw v) {args : List CV} {cw : CW} {Q : CV → CW → Prop} (hc : pureC F args cw Q) :
    wpF K f args cw Q := by
  obtain ⟨v, hv, hq⟩ := hc
  obtain ⟨h1, h2⟩ := h args v hv
  refine ⟨h1, h2 cw _ fun e ρ' cw' v' he hr hf hk => ⟨he, v', v, cw, hr, .gone hf hk, hq⟩⟩
@[go_sem] theorem wpo_mov (d : Option Nat) (x_x : RX) (af : List Nat) (r : List RO) (l : List Nat) (s : List Fr) (ρ : Env) (cw : CW) :
    wpo K Q (⟨d, (.mov x_x), none, af⟩ :: r) l s ρ cw = wpr K Q (stepOp (.mov x_x) (ev ρ) cw) d r l s ρ := by simp [wpo, wpr, wpl, wantedR, wpOp]
@[go_sem] theorem wpo_pick (d : Option Nat) (x_c x_a x_b : RX) (af : List Nat) (r : List RO) (l : List Nat) (s : List Fr) (ρ : Env) (cw : CW) :
    wpo K Q (⟨d, (.pick x_c x_a x_b), none, af⟩ :: r) l s ρ cw = wpr K Q (stepOp (.pick x_c x_a x_b) (ev ρ) cw) d r l s ρ := by simp [wpo, wpr, wpl, wantedR, wpOp]
@[go_sem] theorem wpo_bin (d : Option Nat) (x_op : BinOp) (x_x x_y : RX) (af : List Nat) (r : List RO) (l : List Nat) (s : List Fr) (ρ : Env) (cw : CW) :
    wpo K Q (⟨d, (.bin x_op x_x x_y), none, af⟩ :: r) l s ρ cw = wpr K Q (stepOp (.bin x_op x_x x_y) (ev ρ) cw) d r l s ρ := by simp [wpo, wpr, wpl, wantedR, wpOp]
@[go_sem] theorem wpo_eq (d : Option Nat) (x_neg : Bool) (x_k : EqK) (x_x x_y : RX) (af : List Nat) (r : List RO) (l : List Nat) (s : List Fr) (ρ : Env) (cw : CW) :
    wpo K Q (⟨d, (.eq x_neg x_k x_x x_y), none, af⟩ :: r) l s ρ cw = wpr K Q (stepOp (.eq x_neg x_k x_x x_y) (ev ρ) cw) d r l s ρ := by simp [wpo, wpr, wpl, wantedR, wpOp]
@[go_sem] theorem wpo_not (d : Option Nat) (x_x : RX) (af : List Nat) (r : List RO) (l : List Nat) (s : List Fr) (ρ : Env) (cw : CW) :
    wpo K Q (⟨d, (.not x_x), none, af⟩ :: r) l s ρ cw = wpr K Q (stepOp (.not x_x) (ev ρ) cw) d r l s ρ := by simp [wpo, wpr, wpl, wantedR, wpOp]
@[go_sem] theorem wpo_neg (d : Option Nat) (x_x : RX) (af : List Nat) (r : List RO) (l : List Nat) (s : List Fr) (ρ : Env) (cw : CW) :
    wpo K Q (⟨d, (.neg x_x), none, af⟩ :: r) l s ρ cw = wpr K Q (stepOp (.neg x_x) (ev ρ) cw) d r l s ρ := by simp [wpo, wpr, wpl, wantedR, wpOp]
@[go_sem] theorem wpo_cpl (d : Option Nat) (x_x : RX) (af : List Nat) (r : List RO) (l : List Nat) (s : List Fr) (ρ : Env) (cw : CW) :
    wpo K Q (⟨d, (.cpl x_x), none, af⟩ :: r) l s ρ cw = wpr K Q (stepOp (.cpl x_x) (ev ρ) cw) d r l s ρ := by simp [wpo, wpr, wpl, wantedR, wpOp]
@[go_sem] theorem wpo_conv (d : Option Nat) (x_k : IntKind) (x_x : RX) (af : List Nat) (r : List RO) (l : List Nat) (s : List Fr) (ρ : Env) (cw : CW) :
    wpo K Q (⟨d, (.conv x_k x_x), none, af⟩ :: r) l s ρ cw = wpr K Q (stepOp (.conv x_k x_x) (ev ρ) cw) d r l s ρ := by simp [wpo, wpr, wpl, wantedR, wpOp]
@[go_sem] theorem wpo_s2s (d : Option Nat) (x_x : RX) (af : List Nat) (r : List RO) (l : List Nat) (s : List Fr) (ρ : Env) (cw : CW) :
    wpo K Q (⟨d, (.s2s x_x), none, af⟩ :: r) l s ρ cw = wpr K Q (stepOp (.s2s x_x) (ev ρ) cw) d r l s ρ := by simp [wpo, wpr, wpl, wantedR, wpOp]
@[go_sem] theorem wpo_s2b (d : Option Nat) (x_own : Bool) (x_x : RX) (af : List Nat) (r : List RO) (l : List Nat) (s : List Fr) (ρ : Env) (cw : CW) :
    wpo K Q (⟨d, (.s2b x_own x_x), none, af⟩ :: r) l s ρ cw = wpr K Q (stepOp (.s2b x_own x_x) (ev ρ) cw) d r l s ρ := by simp [wpo, wpr, wpl, wantedR, wpOp]
@[go_sem] theorem wpo_b2s (d : Option Nat) (x_x : RX) (af : List Nat) (r : List RO) (l : List Nat) (s : List Fr) (ρ : Env) (cw : CW) :
    wpo K Q (⟨d, (.b2s x_x), none, af⟩ :: r) l s ρ cw = wpr K Q (stepOp (.b2s x_x) (ev ρ) cw) d r l s ρ := by simp [wpo, wpr, wpl, wantedR, wpOp]
@[go_sem] theorem wpo_i2s (d : Option Nat) (x_x : RX) (af : List Nat) (r : List RO) (l : List Nat) (s : List Fr) (ρ : Env) (cw : CW) :
    wpo K Q (⟨d, (.i2s x_x), none, af⟩ :: r) l s ρ cw = wpr K Q (stepOp (.i2s x_x) (ev ρ) cw) d r l s ρ := by simp [wpo, wpr, wpl, wantedR, wpOp]
@[go_sem] theorem wpo_len (d : Option Nat) (x_x : RX) (af : List Nat) (r : List RO) (l : List Nat) (s : List Fr) (ρ : Env) (cw : CW) :
    wpo K Q (⟨d, (.len x_x), none, af⟩ :: r) l s ρ cw = wpr K Q (stepOp (.len x_x) (ev ρ) cw) d r l s ρ := by simp [wpo, wpr, wpl, wantedR, wpOp]
@[go_sem] theorem wpo_lenS (d : Option Nat) (x_x : RX) (af : List Nat) (r : List RO) (l : List Nat) (s : List Fr) (ρ : Env) (cw : CW) :
    wpo K Q (⟨d, (.lenS x_x), none, af⟩ :: r) l s ρ cw = wpr K Q (stepOp (.lenS x_x) (ev ρ) cw) d r l s ρ := by simp [wpo, wpr, wpl, wantedR, wpOp]
@[go_sem] theorem wpo_lenA (d : Option Nat) (x_n : Nat) (af : List Nat) (r : List RO) (l : List Nat) (s : List Fr) (ρ : Env) (cw : CW) :
    wpo K Q (⟨d, (.lenA x_n), none, af⟩ :: r) l s ρ cw = wpr K Q (stepOp (.lenA x_n) (ev ρ) cw) d r l s ρ := by simp [wpo, wpr, wpl, wantedR, wpOp]
@[go_sem] theorem wpo_lenM (d : Option Nat) (x_x : RX) (af : List Nat) (r : List RO) (l : List Nat) (s : List Fr) (ρ : Env) (cw : CW) :
    wpo K Q (⟨d, (.lenM x_x), none, af⟩ :: r) l s ρ cw = wpr K Q (stepOp (.lenM x_x) (ev ρ) cw) d r l s ρ := by simp [wpo, wpr, wpl, wantedR, wpOp]
@[go_sem] theorem wpo_box (d : Option Nat) (x_n : Nat) (x_x : RX) (af : List Nat) (r : List RO) (l : List Nat) (s : List Fr) (ρ : Env) (cw : CW) :
    wpo K Q (⟨d, (.box x_n x_x), none, af⟩ :: r) l s ρ cw = wpr K Q (stepOp (.box x_n x_x) (ev ρ) cw) d r l s ρ := by simp [wpo, wpr, wpl, wantedR, wpOp]
@[go_sem] theorem wpo_alloc (d : Option Nat) (x_zero : List CV) (af : List Nat) (r : List RO) (l : List Nat) (s : List Fr) (ρ : Env) (cw : CW) :
    wpo K Q (⟨d, (.alloc x_zero), none, af⟩ :: r) l s ρ cw = wpr K Q (stepOp (.alloc x_zero) (ev ρ) cw) d r l s ρ := by simp [wpo, wpr, wpl, wantedR, wpOp]
@[go_sem] theorem wpo_load (d : Option Nat) (x_agg : Bool) (x_n : Nat) (x_x : RX) (af : List Nat) (r : List RO) (l : List Nat) (s : List Fr) (ρ : Env) (cw : CW) :
    wpo K Q (⟨d, (.load x_agg x_n x_x), none, af⟩ :: r) l s ρ cw = wpr K Q (stepOp (.load x_agg x_n x_x) (ev ρ) cw) d r l s ρ := by simp [wpo, wpr, wpl, wantedR, wpOp]
@[go_sem] theorem wpo_store (d : Option Nat) (x_n : Nat) (x_x x_v : RX) (af : List Nat) (r : List RO) (l : List Nat) (s : List Fr) (ρ : Env) (cw : CW) :
    wpo K Q (⟨d, (.store x_n x_x x_v), none, af⟩ :: r) l s ρ cw = wpr K Q (stepOp (.store x_n x_x x_v) (ev ρ) cw) d r l s ρ := by simp [wpo, wpr, wpl, wantedR, wpOp]
@[go_sem] theorem wpo_nilc (d : Option Nat) (x_x : RX) (af : List Nat) (r : List RO) (l : List Nat) (s : List Fr) (ρ : Env) (cw : CW) :
    wpo K Q (⟨d, (.nilc x_x), none, af⟩ :: r) l s ρ cw = wpr K Q (stepOp (.nilc x_x) (ev ρ) cw) d r l s ρ := by simp [wpo, wpr, wpl, wantedR, wpOp]
@[go_sem] theorem wpo_faddr (d : Option Nat) (x_off : Nat) (x_x : RX) (af : List Nat) (r : List RO) (l : List Nat) (s : List Fr) (ρ : Env) (cw : CW) :
    wpo K Q (⟨d, (.faddr x_off x_x), none, af⟩ :: r) l s ρ cw = wpr K Q (stepOp (.faddr x_off x_x) (ev ρ) cw) d r l s ρ := by simp [wpo, wpr, wpl, wantedR, wpOp]
@[go_sem] theorem wpo_fld (d : Option Nat) (x_agg : Bool) (x_off x_n : Nat) (x_x : RX) (af : List Nat) (r : List RO) (l : List Nat) (s : List Fr) (ρ : Env) (cw : CW) :
    wpo K Q (⟨d, (.fld x_agg x_off x_n x_x), none, af⟩ :: r) l s ρ cw = wpr K Q (stepOp (.fld x_agg x_off x_n x_x) (ev ρ) cw) d r l s ρ := by simp [wpo, wpr, wpl, wantedR, wpOp]
@[go_sem] theorem wpo_iaddr (d : Option Nat) (x_sz : Nat) (x_x x_i : RX) (af : List Nat) (r : List RO) (l : List Nat) (s : List Fr) (ρ : Env) (cw : CW) :
    wpo K Q (⟨d, (.iaddr x_sz x_x x_i), none, af⟩ :: r) l s ρ cw = wpr K Q (stepOp (.iaddr x_sz x_x x_i) (ev ρ) cw) d r l s ρ := by simp [wpo, wpr, wpl, wantedR, wpOp]
@[go_sem] theorem wpo_iaddrA (d : Option Nat) (x_len x_sz : Nat) (x_x x_i : RX) (af : List Nat) (r : List RO) (l : List Nat) (s : List Fr) (ρ : Env) (cw : CW) :
    wpo K Q (⟨d, (.iaddrA x_len x_sz x_x x_i), none, af⟩ :: r) l s ρ cw = wpr K Q (stepOp (.iaddrA x_len x_sz x_x x_i) (ev ρ) cw) d r l s ρ := by simp [wpo, wpr, wpl, wantedR, wpOp]
@[go_sem] theorem wpo_idx (d : Option Nat) (x_len : Nat) (x_agg : Bool) (x_sz : Nat) (x_x x_i : RX) (af : List Nat) (r : List RO) (l : List Nat) (s : List Fr) (ρ : Env) (cw : CW) :
    wpo K Q (⟨d, (.idx x_len x_agg x_sz x_x x_i), none, af⟩ :: r) l s ρ cw = wpr K Q (stepOp (.idx x_len x_agg x_sz x_x x_i) (ev ρ) cw) d r l s ρ := by simp [wpo, wpr, wpl, wantedR, wpOp]
@[go_sem] theorem wpo_idxS (d : Option Nat) (x_x x_i : RX) (af : List Nat) (r : List RO) (l : List Nat) (s : List Fr) (ρ : Env) (cw : CW) :
    wpo K Q (⟨d, (.idxS x_x x_i), none, af⟩ :: r) l s ρ cw = wpr K Q (stepOp (.idxS x_x x_i) (ev ρ) cw) d r l s ρ := by simp [wpo, wpr, wpl, wantedR, wpOp]
@[go_sem] theorem wpo_build (d : Option Nat) (x_zero : List CV) (x_parts : List (Nat × Nat × RX)) (af : List Nat) (r : List RO) (l : List Nat) (s : List Fr) (ρ : Env) (cw : CW) :
    wpo K Q (⟨d, (.build x_zero x_parts), none, af⟩ :: r) l s ρ cw = wpr K Q (stepOp (.build x_zero x_parts) (ev ρ) cw) d r l s ρ := by simp [wpo, wpr, wpl, wantedR, wpOp]
@[go_sem] theorem wpo_lit (d : Option Nat) (x_own : Bool) (x_sz x_n : Nat) (x_zero : List CV) (x_parts : List (Nat × Nat × RX)) (af : List Nat) (r : List RO) (l : List Nat) (s : List Fr) (ρ : Env) (cw : CW) :
    wpo K Q (⟨d, (.lit x_own x_sz x_n x_zero x_parts), none, af⟩ :: r) l s ρ cw = wpr K Q (stepOp (.lit x_own x_sz x_n x_zero x_parts) (ev ρ) cw) d r l s ρ := by simp [wpo, wpr, wpl, wantedR, wpOp]
@[go_sem] theorem wpo_mk (d : Option Nat) (x_sz : Nat) (x_zero : List CV) (x_l x_c : RX) (af : List Nat) (r : List RO) (l : List Nat) (s : List Fr) (ρ : Env) (cw : CW) :
    wpo K Q (⟨d, (.mk x_sz x_zero x_l x_c), none, af⟩ :: r) l s ρ cw = wpr K Q (stepOp (.mk x_sz x_zero x_l x_c) (ev ρ) cw) d r l s ρ := by simp [wpo, wpr, wpl, wantedR, wpOp]
@[go_sem] theorem wpo_subS (d : Option Nat) (x_x : RX) (x_lo x_hi : Option RX) (af : List Nat) (r : List RO) (l : List Nat) (s : List Fr) (ρ : Env) (cw : CW) :
    wpo K Q (⟨d, (.subS x_x x_lo x_hi), none, af⟩ :: r) l s ρ cw = wpr K Q (stepOp (.subS x_x x_lo x_hi) (ev ρ) cw) d r l s ρ := by simp [wpo, wpr, wpl, wantedR, wpOp]
@[go_sem] theorem wpo_sub (d : Option Nat) (x_sz : Nat) (x_x : RX) (x_lo x_hi x_mx : Option RX) (af : List Nat) (r : List RO) (l : List Nat) (s : List Fr) (ρ : Env) (cw : CW) :
    wpo K Q (⟨d, (.sub x_sz x_x x_lo x_hi x_mx), none, af⟩ :: r) l s ρ cw = wpr K Q (stepOp (.sub x_sz x_x x_lo x_hi x_mx) (ev ρ) cw) d r l s ρ := by simp [wpo, wpr, wpl, wantedR, wpOp]
@[go_sem] theorem wpo_subA (d : Option Nat) (x_n x_sz : Nat) (x_x : RX) (af : List Nat) (r : List RO) (l : List Nat) (s : List Fr) (ρ : Env) (cw : CW) :
    wpo K Q (⟨d, (.subA x_n x_sz x_x), none, af⟩ :: r) l s ρ cw = wpr K Q (stepOp (.subA x_n x_sz x_x) (ev ρ) cw) d r l s ρ := by simp [wpo, wpr, wpl, wantedR, wpOp]
@[go_sem] theorem wpo_app (d : Option Nat) (x_sz : Nat) (x_x x_y : RX) (af : List Nat) (r : List RO) (l : List Nat) (s : List Fr) (ρ : Env) (cw : CW) :
    wpo K Q (⟨d, (.app x_sz x_x x_y), none, af⟩ :: r) l s ρ cw = wpr K Q (stepOp (.app x_sz x_x x_y) (ev ρ) cw) d r l s ρ := by simp [wpo, wpr, wpl, wantedR, wpOp]
@[go_sem] theorem wpo_appZ (d : Option Nat) (x_sz : Nat) (x_zero : List CV) (x_x x_n : RX) (af : List Nat) (r : List RO) (l : List Nat) (s : List Fr) (ρ : Env) (cw : CW) :
    wpo K Q (⟨d, (.appZ x_sz x_zero x_x x_n), none, af⟩ :: r) l s ρ cw = wpr K Q (stepOp (.appZ x_sz x_zero x_x x_n) (ev ρ) cw) d r l s ρ := by simp [wpo, wpr, wpl, wantedR, wpOp]
@[go_sem] theorem wpo_copy (d : Option Nat) (x_sz : Nat) (x_x x_y : RX) (af : List Nat) (r : List RO) (l : List Nat) (s : List Fr) (ρ : Env) (cw : CW) :
    wpo K Q (⟨d, (.copy x_sz x_x x_y), none, af⟩ :: r) l s ρ cw = wpr K Q (stepOp (.copy x_sz x_x x_y) (ev ρ) cw) d r l s ρ := by simp [wpo, wpr, wpl, wantedR, wpOp]
@[go_sem] theorem wpo_clr (d : Option Nat) (x_sz : Nat) (x_zero : List CV) (x_x : RX) (af : List Nat) (r : List RO) (l : List Nat) (s : List Fr) (ρ : Env) (cw : CW) :
    wpo K Q (⟨d, (.clr x_sz x_zero x_x), none, af⟩ :: r) l s ρ cw = wpr K Q (stepOp (.clr x_sz x_zero x_x) (ev ρ) cw) d r l s ρ := by simp [wpo, wpr, wpl, wantedR, wpOp]
@[go_sem] theorem wpo_max (d : Option Nat) (x_x x_y : RX) (af : List Nat) (r : List RO) (l : List Nat) (s : List Fr) (ρ : Env) (cw : CW) :
    wpo K Q (⟨d, (.max x_x x_y), none, af⟩ :: r) l s ρ cw = wpr K Q (stepOp (.max x_x x_y) (ev ρ) cw) d r l s ρ := by simp [wpo, wpr, wpl, wantedR, wpOp]
@[go_sem] theorem wpo_min (d : Option Nat) (x_x x_y : RX) (af : List Nat) (r : List RO) (l : List Nat) (s : List Fr) (ρ : Env) (cw : CW) :
    wpo K Q (⟨d, (.min x_x x_y), none, af⟩ :: r) l s ρ cw = wpr K Q (stepOp (.min x_x x_y) (ev ρ) cw) d r l s ρ := by simp [wpo, wpr, wpl, wantedR, wpOp]
@[go_sem] theorem wpo_mkfn (d : Option Nat) (x_g : Nat) (x_first x_caps : List RX) (af : List Nat) (r : List RO) (l : List Nat) (s : List Fr) (ρ : Env) (cw : CW) :
    wpo K Q (⟨d, (.mkfn x_g x_first x_caps), none, af⟩ :: r) l s ρ cw = wpr K Q (stepOp (.mkfn x_g x_first x_caps) (ev ρ) cw) d r l s ρ := by simp [wpo, wpr, wpl, wantedR, wpOp]
@[go_sem] theorem wpo_ext (d : Option Nat) (x_i : Nat) (x_x : RX) (af : List Nat) (r : List RO) (l : List Nat) (s : List Fr) (ρ : Env) (cw : CW) :
    wpo K Q (⟨d, (.ext x_i x_x), none, af⟩ :: r) l s ρ cw = wpr K Q (stepOp (.ext x_i x_x) (ev ρ) cw) d r l s ρ := by simp [wpo, wpr, wpl, wantedR, wpOp]
@[go_sem] theorem wpo_ifc (d : Option Nat) (x_t : Nat) (x_x : RX) (af : List Nat) (r : List RO) (l : List Nat) (s : List Fr) (ρ : Env) (cw : CW) :
    wpo K Q (⟨d, (.ifc x_t x_x), none, af⟩ :: r) l s ρ cw = wpr K Q (stepOp (.ifc x_t x_x) (ev ρ) cw) d r l s ρ := by simp [wpo, wpr, wpl, wantedR, wpOp]
@[go_sem] theorem wpo_mkmap (d : Option Nat)  (af : List Nat) (r : List RO) (l : List Nat) (s : List Fr) (ρ : Env) (cw : CW) :
    wpo K Q (⟨d, .mkmap, none, af⟩ :: r) l s ρ cw = wpr K Q (stepOp .mkmap (ev ρ) cw) d r l s ρ := by simp [wpo, wpr, wpl, wantedR, wpOp]
@[go_sem] theorem wpo_look (d : Option Nat) (x_ks : Bool) (x_zero : CV) (x_ok : Bool) (x_x x_k : RX) (af : List Nat) (r : List RO) (l : List Nat) (s : List Fr) (ρ : Env) (cw : CW) :
    wpo K Q (⟨d, (.look x_ks x_zero x_ok x_x x_k), none, af⟩ :: r) l s ρ cw = wpr K Q (stepOp (.look x_ks x_zero x_ok x_x x_k) (ev ρ) cw) d r l s ρ := by simp [wpo, wpr, wpl, wantedR, wpOp]
@[go_sem] theorem wpo_mupd (d : Option Nat) (x_ks : Bool) (x_m x_k x_v : RX) (af : List Nat) (r : List RO) (l : List Nat) (s : List Fr) (ρ : Env) (cw : CW) :
    wpo K Q (⟨d, (.mupd x_ks x_m x_k x_v), none, af⟩ :: r) l s ρ cw = wpr K Q (stepOp (.mupd x_ks x_m x_k x_v) (ev ρ) cw) d r l s ρ := by simp [wpo, wpr, wpl, wantedR, wpOp]
@[go_sem] theorem wpo_ment (d : Option Nat) (x_ks : Bool) (x_zero : CV) (x_m x_k : RX) (af : List Nat) (r : List RO) (l : List Nat) (s : List Fr) (ρ : Env) (cw : CW) :
    wpo K Q (⟨d, (.ment x_ks x_zero x_m x_k), none, af⟩ :: r) l s ρ cw = wpr K Q (stepOp (.ment x_ks x_zero x_m x_k) (ev ρ) cw) d r l s ρ := by simp [wpo, wpr, wpl, wantedR, wpOp]
@[go_sem] theorem wpo_mset (d : Option Nat) (x_m x_s x_v : RX) (af : List Nat) (r : List RO) (l : List Nat) (s : List Fr) (ρ : Env) (cw : CW) :
    wpo K Q (⟨d, (.mset x_m x_s x_v), none, af⟩ :: r) l s ρ cw = wpr K Q (stepOp (.mset x_m x_s x_v) (ev ρ) cw) d r l s ρ := by simp [wpo, wpr, wpl, wantedR, wpOp]
@[go_sem] theorem wpo_mdel (d : Option Nat) (x_ks : Bool) (x_m x_k : RX) (af : List Nat) (r : List RO) (l : List Nat) (s : List Fr) (ρ : Env) (cw : CW) :
    wpo K Q (⟨d, (.mdel x_ks x_m x_k), none, af⟩ :: r) l s ρ cw = wpr K Q (stepOp (.mdel x_ks x_m x_k) (ev ρ) cw) d r l s ρ := by simp [wpo, wpr, wpl, wantedR, wpOp]
@[go_sem] theorem wpo_mclr (d : Option Nat) (x_m : RX) (af : List Nat) (r : List RO) (l : List Nat) (s : List Fr) (ρ : Env) (cw : CW) :
    wpo K Q (⟨d, (.mclr x_m), none, af⟩ :: r) l s ρ cw = wpr K Q (stepOp (.mclr x_m) (ev ρ) cw) d r l s ρ := by simp [wpo, wpr, wpl, wantedR, wpOp]
@[go_sem] theorem repl_1 (z : List CV) : repl 1 z = z := by simp [repl]
@[go_sem] theorem repl_2 (z : List CV) : repl 2 z = z ++ z := by simp [repl, List.replicate]
@[go_sem] theorem repl_3 (z : List CV) : repl 3 z = z ++ (z ++ z) := by simp [repl, List.replicate]
end
attribute [go_sem] wantedR evs evo stepOp binV binI binSh binS isSh ldc splice CV.cells CV.one seqOf intV loV hiV hi3 appV resV resAll resOne numb eqV eqCell eqCells fillc Option.bind_some

end Go.Cs
