/- Parts: CsLaw, CsTab, PrioK, SeatRun, SeatAwake, PrioO, PrioP, PrioQ, PrioR, PrioT, PrioV, PrioW, PrioX. -/
import Derived.Test.YtopnfbffcggnmaaDoorM4
import Derived.Carry
import Derived.ChangeSame
import Derived.JoinedOf
/- From a sound contract to a law: the call answers true, and leaves all that was there as it was. -/
namespace Go.Cs
open Go.RowKit Go.ChangeShapes Go.WideShapes
variable {P : Program} {fid : FuncId → Option Nat} {G : Nat → World → Prop}

/-- No canonical block yet. -/
def cw0 : CW := ⟨fun _ => none, 0⟩
/-- All that is there is not written. -/
def X0 (W : World) : Cx := ⟨fun _ => none, fun r _ => r < W.heap.size, 0⟩

theorem sim0 (W : World) : Sim fid W.heap.size W (X0 W) cw0 W where
  nx := rfl
  dom := by intro b m h; cases h
  blk := by intro b o h; cases h
  inj := by intro b b' m m' h; cases h
  sep := by intro b m h; cases h
  old := fun r o h => h
  lt := fun r o h => h
  below := Below.refl _ _
  room := Nat.le_refl _

theorem law_calls {f : FuncId} {C : Ct} {W : World} {cargs : List CV} {rargs : Array Value} (hs : Sound P fid G f C) (hG : G W.heap.size W) (hc : C cargs cw0 fun v _ => v = .bool true) (hA : ArgsR fid (X0 W) W cargs rargs) :
    Calls P f rargs W fun e w' => e = .returned (.bool true) ∧ Below W.heap.size W w' := by
  refine (hs.calls cargs cw0 _ hc W.heap.size W (X0 W) W rargs hG (sim0 W) hA).mono ?_
  rintro e w' ⟨c, v, cw', X', rfl, rfl, s, _, hv⟩
  exact ⟨by rw [hv.bool_inv], s.below⟩

theorem below_trodAll {H : Type} {enc : TypeId × Value → H} (hl : laidOutB P = true) {W W' : World} (hb : Below W.heap.size W W') :
    ∀ {ts : List TypeId} {vs : List Value} {ds : List (DataW H)} {ps : List MemPlace}, (ts.all fun t => P.readableRec t && decide (t < P.types.size)) = true → (∀ x ∈ ps, x.block < W.heap.size) →
      DataW.TrodAll enc P W 0 (fun _ => true) true ts vs ds ps → DataW.TrodAll enc P W' 0 (fun b => decide (b < W.heap.size)) true ts vs ds ps
  | [], [], [], _, _, _, h => h
  | t :: ts, v :: vs, d :: ds, ps, ht, hlt, h => by
    obtain ⟨p, q, h1, h2, rfl⟩ := h
    simp only [List.all_cons, Bool.and_eq_true, decide_eq_true_eq] at ht
    exact ⟨p, q, Below.trod hl ht.1.1 ht.1.2 h1 hb fun x hx => hlt x (List.mem_append_left _ hx),
      below_trodAll hl hb ht.2 (fun x hx => hlt x (List.mem_append_right _ hx)) h2, rfl⟩
  | [], [], _ :: _, _, _, _, h => h.elim
  | [], _ :: _, _, _, _, _, h => by cases h
  | _ :: _, [], _, _, _, _, h => by cases h
  | _ :: _, _ :: _, [], _, _, _, h => by cases h

/-- The law's own promise. -/
theorem law_post {H : Type} {enc : TypeId × Value → H} {f : Func} {s : ChangeSpec} {apart : Bool} {W W' : World} {args : Array Value} {ds gs : List (DataW H)} {before : List MemPlace} {tb : TypeId}
    (hvars : s.vars = []) (hfn : s.fn H (ds ++ []) = { results := [.lit (.bool true)], args := ds }) (hres : f.resultTypes = #[tb]) (htb : P.underlying tb = some .bool) (hl : laidOutB P = true)
    (hpar : (f.params.toList.all fun t => P.readableRec t && decide (t < P.types.size)) = true) (hW : DataW.Whole enc P f.params.toList s.vars apart W args.toList ds gs before) (hb : Below W.heap.size W W') :
    s.post enc P f apart true false false W args (.bool true) W' := by
  have hW' := hW
  obtain ⟨p, q, hA, hV, rfl, hz, hn⟩ := hW
  rw [hvars] at hV
  obtain ⟨rfl, rfl⟩ : gs = [] ∧ q = [] := by
    cases gs with
    | nil => exact ⟨rfl, hV⟩
    | cons g r => exact absurd hV (by intro h; cases h)
  refine ⟨ds, [], p ++ [], [], p, [], hW', ?_, ?_, ?_, hb.frame _, fun h => by cases h⟩
  · rw [hfn, hres]; exact trodAll_mk1 (shut_bool htb true)
  · rw [hfn]
    exact below_trodAll hl hb hpar (fun x hx => hW'.lt x (List.mem_append_left _ hx)) hA
  · rw [hvars, hfn]; rfl

end Go.Cs

/- Tables of contracts; laws at the empty canonical world. -/
namespace Go.Cs
variable {P : Program} {fid : FuncId → Option Nat} {G : Nat → World → Prop}

/-- A contract, as data: a function of the arguments; a function of the arguments and the world. -/
inductive Con where
  | p (F : List CV → Option CV)
  | e (F : List CV → CW → Option (CV × CW))

def Con.ct : Con → Ct
  | .p F => pureC F
  | .e F => effC F

abbrev Tab := List (Nat × Con)
def Tab.K (t : Tab) : Nat → Ct := fun g => match t.lookup g with
  | some c => c.ct
  | none => noK g
def Tab.pure (t : Tab) : Nat → Bool := fun g => match t.lookup g with
  | some (.p _) => true
  | _ => false

theorem Con.mono (c : Con) : MonoC c.ct := by
  intro vs cw Q Q' h
  cases c with
  | p F => rintro ⟨v, h1, h2⟩; exact ⟨v, h1, h _ _ h2⟩
  | e F => rintro ⟨r, h1, h2⟩; exact ⟨r, h1, h _ _ h2⟩
theorem Con.feas (c : Con) : FeasC c.ct := by
  intro vs cw Q
  cases c with
  | p F => rintro ⟨v, h1, h2⟩; exact ⟨_, _, h2⟩
  | e F => rintro ⟨r, h1, h2⟩; exact ⟨_, _, h2⟩
theorem Con.conj (c : Con) : ConjC c.ct := by
  intro ι vs cw Q i0 h
  cases c with
  | p F =>
    obtain ⟨v, h1, _⟩ := h i0
    refine ⟨v, h1, fun i => ?_⟩
    obtain ⟨v', h2, h3⟩ := h i
    rw [h1] at h2; cases h2; exact h3
  | e F =>
    obtain ⟨v, h1, _⟩ := h i0
    refine ⟨v, h1, fun i => ?_⟩
    obtain ⟨v', h2, h3⟩ := h i
    rw [h1] at h2; cases h2; exact h3
theorem Tab.K_or (t : Tab) (g : Nat) : t.K g = noK g ∨ ∃ c : Con, t.K g = c.ct := by
  unfold Tab.K
  cases t.lookup g with
  | none => exact .inl rfl
  | some c => exact .inr ⟨c, rfl⟩
theorem Tab.K_pure {t : Tab} {g : Nat} (h : t.pure g = true) : ∃ F, t.K g = pureC F := by
  unfold Tab.pure at h
  unfold Tab.K
  cases hl : t.lookup g with
  | none => rw [hl] at h; cases h
  | some c =>
    rw [hl] at h
    cases c with
    | p F => exact ⟨F, rfl⟩
    | e F => cases h

theorem Tab.ok (t : Tab) : KOk t.K t.pure where
  mono := by
    intro g
    rcases t.K_or g with h | ⟨c, h⟩ <;> rw [h]
    · exact fun _ _ _ _ _ h => h.elim
    · exact c.mono
  feas := by
    intro g
    rcases t.K_or g with h | ⟨c, h⟩ <;> rw [h]
    · exact fun _ _ _ h => h.elim
    · exact c.feas
  conj := by
    intro g
    rcases t.K_or g with h | ⟨c, h⟩ <;> rw [h]
    · exact fun _ _ _ _ i0 h => (h i0).elim
    · exact c.conj
  pure := by
    intro g hg
    obtain ⟨F, h⟩ := Tab.K_pure hg
    rw [h]
    exact ⟨fun vs v => F vs = some v, fun vs v v' h1 h2 => Option.some.inj (h1.symm.trans h2), fun vs cw Q => Iff.rfl⟩

theorem Tab.nil_sound : KSound P fid G (Tab.K []) := by
  rintro f g _ ⟨_, _, _, h⟩
  exact h.elim

theorem Tab.K_same (t : Tab) (g : Nat) (c : Con) : Tab.K ((g, c) :: t) g = c.ct := by
  unfold Tab.K
  rw [List.lookup_cons]
  simp
theorem Tab.K_other (t : Tab) {g i : Nat} (c : Con) (h : i ≠ g) : Tab.K ((g, c) :: t) i = t.K i := by
  unfold Tab.K
  rw [List.lookup_cons]
  have : (i == g) = false := by simpa using h
  rw [this]
theorem Tab.cons_sound {t : Tab} {g : Nat} {c : Con} (h : KSound P fid G t.K) (hs : ∀ f, fid f = some g → Sound P fid G f c.ct) : KSound P fid G (Tab.K ((g, c) :: t)) := by
  intro f i hf hne
  by_cases hi : i = g
  · subst hi
    rw [Tab.K_same]
    exact hs f hf
  · rw [Tab.K_other t c hi] at hne ⊢
    exact h f i hf hne

/-! ## A table that is told, for the interpreter -/
def Con.run : Con → List CV → CW → Option (CV × CW)
  | .p F, args, cw => (F args).map fun v => (v, cw)
  | .e F, args, cw => F args cw
def Tab.F (t : Tab) : CF := fun g args cw => (t.lookup g).bind fun c => c.run args cw

theorem Tab.lib_sound {t : Tab} (h : KSound P fid G t.K) : ∀ f g, fid f = some g → (∃ args cw r, t.F g args cw = some r) → Sound P fid G f (ctX t.F g) := by
  rintro f g hf ⟨args, cw, r, hr⟩
  unfold Tab.F at hr
  cases hl : t.lookup g with
  | none => rw [hl] at hr; cases hr
  | some c =>
    have hK : t.K g = c.ct := by unfold Tab.K; rw [hl]
    have e : ∀ args cw Q, ctX t.F g args cw Q → t.K g args cw Q := by
      rintro args cw Q ⟨r, h1, h2⟩
      rw [hK]
      unfold Tab.F at h1
      rw [hl] at h1
      cases c with
      | p F =>
        obtain ⟨v, hv, rfl⟩ := Option.map_eq_some_iff.1 (show (F args).map (fun v => (v, cw)) = some r from h1)
        exact ⟨v, hv, h2⟩
      | e F => exact ⟨r, h1, h2⟩
    exact (h f g hf ⟨args, cw, fun _ _ => True, e _ _ _ ⟨r, by unfold Tab.F; exact hr, trivial⟩⟩).weaken e

/-- Which of the told functions are pure, if none of them is run. -/
def pureX (Gt : List (Nat × RF)) (t : Tab) : Nat → Bool := fun g => (Gt.lookup g).isNone && t.pure g
def runG (Gt : List (Nat × RF)) : Nat → Option RF := fun g => Gt.lookup g

theorem mem_of_lookup {α : Type} : ∀ {l : List (Nat × α)} {g : Nat} {x : α}, l.lookup g = some x → (g, x) ∈ l
  | [], g, x, h => by cases h
  | p :: l, g, x, h => by
    rw [List.lookup_cons] at h
    by_cases hg : (g == p.1) = true
    · rw [hg] at h
      cases h
      have : g = p.1 := by simpa using hg
      subst this
      exact List.mem_cons_self ..
    · have : (g == p.1) = false := by simpa using hg
      rw [this] at h
      exact List.mem_cons_of_mem _ (mem_of_lookup h)

/-- A function that is run: the seat's function of that number resolves to it. -/
def Ent (P : Program) (fid : FuncId → Option Nat) (pure : Nat → Bool) (p : Nat × RF) : Prop :=
  ∀ f, fid f = some p.1 → ∃ fn own, P.funcs[f]? = some fn ∧ fn.name ≠ "runtime.NumGoroutine" ∧ resF P fid own fn = some p.2.strip ∧ p.2.body.ok pure = true

theorem run_sound (hm : P.follows .mixedOrders = true) {Gt : List (Nat × RF)} {t : Tab} (hE : ∀ p ∈ Gt, Ent P fid (pureX Gt t) p) (ht : KSound P fid G t.K) : ∀ n, KSound P fid G (ctX (callX (runG Gt) t.F n)) := by
  refine callX_sound (pure := pureX Gt t) hm (fun f g ir hf hg => hE (g, ir) (mem_of_lookup hg) f hf) (Tab.lib_sound ht) fun g hg => ?_
  simp only [pureX, Bool.and_eq_true] at hg
  refine ⟨by simpa [runG] using hg.1, ?_⟩
  have h2 := hg.2
  unfold Tab.pure at h2
  unfold Tab.F
  cases hl : t.lookup g with
  | none => rw [hl] at h2; cases h2
  | some c =>
    rw [hl] at h2
    cases c with
    | p F => exact ⟨F, fun args cw => rfl⟩
    | e F => cases h2

theorem fn_p {t : Tab} (hm : P.follows .mixedOrders = true) (hK : KSound P fid G t.K) {f : FuncId} {fn : Func} {own : List Nat} {ir : RF} {F : List CV → Option CV} (hf : P.funcs[f]? = some fn) (hname : fn.name ≠ "runtime.NumGoroutine")
    (hres : resF P fid own fn = some ir.strip) (hok : ir.body.ok t.pure = true) (hr : ∀ args v, F args = some v → args.length = ir.np ∧ ∀ cw, Runs t.K ir args cw v) : Sound P fid G f (Con.p F).ct :=
  sound_of hm hK t.ok hf hname hres hok fun _ _ _ hc => wpF_pure hr hc

theorem fn_e {t : Tab} (hm : P.follows .mixedOrders = true) (hK : KSound P fid G t.K) {f : FuncId} {fn : Func} {own : List Nat} {ir : RF} {F : List CV → CW → Option (CV × CW)} (hf : P.funcs[f]? = some fn) (hname : fn.name ≠ "runtime.NumGoroutine")
    (hres : resF P fid own fn = some ir.strip) (hok : ir.body.ok t.pure = true) (hr : ∀ args cw v cw', F args cw = some (v, cw') → args.length = ir.np ∧ cw' = cw ∧ Runs t.K ir args cw v) : Sound P fid G f (Con.e F).ct :=
  sound_of hm hK t.ok hf hname hres hok fun _ _ _ hc => wpF_eff hr hc

theorem lk_only {l : List (Nat × Nat)} {g n : Nat} (h : (l.all fun p => p.2 != g || p.1 == n) = true) : ∀ f, l.lookup f = some g → f = n := by
  intro f hf
  have := List.all_eq_true.1 h _ (mem_of_lookup hf)
  simpa using this

/-! ## The top -/
@[go_sem] theorem bne_tf : (true != false) = true := rfl
@[go_sem] theorem bne_ff : (false != false) = false := rfl
@[go_sem] theorem bne_tt : (true != true) = false := rfl
@[go_sem] theorem bne_ft : (false != true) = true := rfl
attribute [go_sem] beq_self_eq_true bne_self_eq_false
@[go_sem] theorem bne_xf (b : Bool) : (b != false) = b := by cases b <;> rfl
@[go_sem] theorem cw0_next : cw0.next = 0 := rfl
@[go_sem] theorem cw0_get (b : Nat) : cw0.get b = none := rfl
@[go_sem] theorem wpk_multi {K : Nat → Ct} {Q : RE → Env → CW → Prop} (ops : List RO) (orders : List (List Nat)) (l : List Nat) (s : List Fr) (ρ : Env) (cw : CW) :
    wpk K Q (.multi ops orders l) s ρ cw = ∀ o ∈ orders, wpo K Q (o.map fun i => (ops[i]?).getD default) l s ρ cw := rfl

theorem top_run {K : Nat → Ct} {f : RF} {args : List CV} (hl : args.length = f.np)
    (h : ∀ Q : RE → Env → CW → Prop, (∀ ρ' cw', resV cw' ρ' f.rs = some (.bool true) → Q .ret ρ' cw') → wpk K Q f.body [] (numb 0 args) cw0) : wpF K f args cw0 fun v _ => v = .bool true := by
  refine ⟨hl, h _ fun ρ' cw' hr => ⟨.inr rfl, _, _, cw', hr, .stay, rfl⟩⟩

end Go.Cs

/- prio: PrioBack's own run. -/
namespace Go.Cs
variable {K : Nat → Ct} {Q : RE → Env → CW → Prop}

def awakeF : List CV → Option CV
  | [] => some (.bool true)
  | _ => none

theorem printM_ok {u : Int} (h : checkM u = 0) (st : Bool) : printM u st = .tup [.str (prS u st), .int .i64 0] := by rw [printM, if_neg (by simp [h])]; rfl
theorem printM_bad {u : Int} (h : checkM u ≠ 0) (st : Bool) : printM u st = .tup [.str [], .int .i64 (checkM u)] := by rw [printM, if_pos h]

theorem not_beq {α : Type} [BEq α] (a b : α) : (a != b) = !(a == b) := rfl

set_option maxHeartbeats 4000000 in
theorem back4 (h8 : K 8 = pureC awakeF) (h22 : K 22 = pureC parseF) (h24 : K 24 = pureC itemsF) {u : Int} {st : Bool} {more : List UInt8} (hu : checkM u = 0) (hml : more.length ≤ 100) (fin : ∀ cw', Q .ret [(6, .bool true)] cw') {ρ : Env} {cw : CW} {p : Nat}
    (r2 : Env.get ρ 2 = some (.str more)) (r7 : Env.get ρ 7 = some (.ptr p 0)) (r9 : Env.get ρ 9 = some (.str (prS u st))) (hp : p < cw.next) (hg : cw.get p = some (.cells [.int .i64 u, .bool st])) :
    wpk K Q f_footmanlaw38_PrioBack_p4 [] ρ cw := by
  obtain ⟨p1, p2, p3, p4, p5⟩ := pr_of hu st
  have hI : ∃ lv, itemsM (120 :: more) = .tup [lv, .int .i64 (itemsE (120 :: more))] ∧ (lv = .nils ∨ ∃ cs n, lv = .vec cs n false ∧ (itemsE (120 :: more) = 0 → n = 1 → itemsM (120 :: more) = .tup [.vec cs 1 false, .int .i64 0])) := by
    rcases itemsM_shape (120 :: more) with ⟨h, _⟩ | ⟨n, h, _⟩
    · exact ⟨_, h, .inl rfl⟩
    · exact ⟨_, h, .inr ⟨_, n, rfl, fun h0 h1 => by rw [h, h0, h1]⟩⟩
  obtain ⟨lv, hi, hlv⟩ := hI
  have hp1 : (p = cw.next) = False := by simp; omega
  have hsl : (prS u st).length ≤ 100000 := by omega
  have hs1 : (prS u st).length + 2 ≤ 9223372036854775807 := by omega
  have hs2 : (prS u st ++ [44, 120]).length + more.length ≤ 9223372036854775807 := by simp; omega
  have hxl : more.length + 1 ≤ 100000 := by omega
  have hx1 : 1 + more.length ≤ 9223372036854775807 := by omega
  have hE : (prS u st ++ [44, 120] ++ more) = prS u st ++ 44 :: 120 :: more := by simp
  have hel : (prS u st ++ 44 :: 120 :: more).length ≤ 100000 := by simp; omega
  have fin2 : ∀ (T : List UInt8) (ρ' : Env), Env.get ρ' 2 = some (.str more) → Env.get ρ' 7 = some (.ptr p 0) → Env.get ρ' 16 = some (.str T) → T.length ≤ 100000 → (∀ cs, itemsM (120 :: more) = .tup [.vec cs 1 false, .int .i64 0] → mergeM 3 false T = .tup [.agg [.int .i64 u, .bool st], .int .i64 0]) →
      wpk K Q f_footmanlaw38_PrioBack_p4b [] ρ' cw := by
    intro T ρ' r2 r7 r16 hT hM
    obtain ⟨a, b, e, hm⟩ := mergeM_shape 3 false T
    simp -implicitDefEqProofs only [f_footmanlaw38_PrioBack_p4b, go_sem, r2, r7, r16, hx1, wpa_pure h24, itemsF, hxl, hi, f_footmanlaw38_PrioBack_p5, wpa_pure h22, parseF, hT, hm, hp1]
    rcases hlv with rfl | ⟨cs, n, rfl, hlv⟩
    · cases he : (itemsE (120 :: more) == 0) <;> simp -implicitDefEqProofs only [not_beq, he, go_sem, wpa_pure h8, awakeF]
      · exact fin _
      · have h01 : ((0 : Int) == 1) = false := by decide
        simp -implicitDefEqProofs only [h01, go_sem, wpa_pure h8, awakeF]
        exact fin _
    · cases he : (itemsE (120 :: more) == 0) <;> simp -implicitDefEqProofs only [not_beq, he, go_sem, wpa_pure h8, awakeF]
      · exact fin _
      · cases h1 : ((n : Int) == 1) <;> simp -implicitDefEqProofs only [go_sem, wpa_pure h8, awakeF]
        · exact fin _
        · have h1' : n = 1 := by have := beq_iff_eq.1 h1; omega
          subst h1'
          have hc := hlv (beq_iff_eq.1 he) rfl
          have hm2 := hM _ hc
          rw [hm] at hm2
          simp -implicitDefEqProofs only [CV.tup.injEq, List.cons.injEq, CV.agg.injEq, CV.int.injEq, CV.bool.injEq, true_and, and_true] at hm2
          obtain ⟨⟨rfl, rfl⟩, rfl⟩ := hm2
          simp -implicitDefEqProofs only [go_sem, hp1, hg, wpa_pure h8, awakeF]
          exact fin _
  simp -implicitDefEqProofs only [f_footmanlaw38_PrioBack_p4, go_sem, r2, r7, r9, hx1]
  cases hs : (prS u st == []) <;> simp -implicitDefEqProofs only [not_beq, hs, go_sem, hs1, hs2, hE]
  · exact fin2 _ _ rfl rfl rfl hel (p5 (by simpa using hs) more hml)
  · exact fin2 _ _ rfl rfl rfl (by simp; omega) (p4 (by simpa using hs) more hml)

set_option maxHeartbeats 4000000 in
theorem back3 {u : Int} {st : Bool} {more : List UInt8} {ρ : Env} {cw : CW} {p7 p11 p13 p15 : Nat} {s : List UInt8} {a : Int} {b : Bool}
    (r2 : Env.get ρ 2 = some (.str more)) (r7 : Env.get ρ 7 = some (.ptr p7 0)) (r9 : Env.get ρ 9 = some (.str s)) (r10 : Env.get ρ 10 = some (.int .i64 0)) (r11 : Env.get ρ 11 = some (.ptr p11 0)) (r12 : Env.get ρ 12 = some (.int .i64 0))
    (r13 : Env.get ρ 13 = some (.ptr p13 0)) (r14 : Env.get ρ 14 = some (.int .i64 0)) (r15 : Env.get ρ 15 = some (.ptr p15 0)) (g7 : cw.get p7 = some (.cells [.int .i64 u, .bool st])) (g11 : cw.get p11 = some (.cells [.int .i64 u, .bool st]))
    (g13 : cw.get p13 = some (.cells [.int .i64 a, .bool b])) (g15 : cw.get p15 = some (.cells [.int .i64 a, .bool b])) (hn : wpk K Q f_footmanlaw38_PrioBack_p4 [] [(2, .str more), (7, .ptr p7 0), (9, .str s), (94, .bool false)] cw) :
    wpk K Q f_footmanlaw38_PrioBack_p3 [] ρ cw := by
  simp -implicitDefEqProofs only [f_footmanlaw38_PrioBack_p3, go_sem, r2, r7, r9, r10, r11, r12, r13, r14, r15, g7, g11, g13, g15, not_beq]
  exact hn

set_option maxHeartbeats 4000000 in
/-- What a merging ought to make. -/
theorem back2 {u v : Int} {st sv : Bool} {ρ : Env} {cw : CW} {p7 p8 : Nat} {r2v r9v r10v r11v r12v r13v r14v : CV}
    (r2 : Env.get ρ 2 = some r2v) (r7 : Env.get ρ 7 = some (.ptr p7 0)) (r8 : Env.get ρ 8 = some (.ptr p8 0)) (r9 : Env.get ρ 9 = some r9v) (r10 : Env.get ρ 10 = some r10v) (r11 : Env.get ρ 11 = some r11v) (r12 : Env.get ρ 12 = some r12v)
    (r13 : Env.get ρ 13 = some r13v) (r14 : Env.get ρ 14 = some r14v) (g7 : cw.get p7 = some (.cells [.int .i64 u, .bool st])) (g8 : cw.get p8 = some (.cells [.int .i64 v, .bool sv])) (h7 : p7 < cw.next)
    (hn : ∀ cw', cw'.next = cw.next + 1 → (∀ b, b < cw.next → cw'.get b = cw.get b) → cw'.get cw.next = some (.cells [.int .i64 (if u = 3 then v else u), .bool (sv || st)]) →
      wpk K Q f_footmanlaw38_PrioBack_p3 [] [(2, r2v), (7, .ptr p7 0), (9, r9v), (10, r10v), (11, r11v), (12, r12v), (13, r13v), (14, r14v), (15, .ptr cw.next 0)] cw') : wpk K Q f_footmanlaw38_PrioBack_p2 [] ρ cw := by
  have h71 : (p7 = cw.next) = False := by simp; omega
  simp -implicitDefEqProofs only [f_footmanlaw38_PrioBack_p2, go_sem, r2, r7, r8, r9, r10, r11, r12, r13, r14, g7, g8, h71]
  cases hu3 : (u != 3)
  all_goals
    cases sv <;> cases st <;> simp -implicitDefEqProofs only [go_sem, hu3, h71, g7]
    all_goals
      refine hn _ ?_ (fun b hb => ?_) ?_
      · simp -implicitDefEqProofs only [go_sem]
      · have hbn : (b = cw.next) = False := by simp; omega
        simp -implicitDefEqProofs only [go_sem, hbn]
      · first
        | (have h3 : u = 3 := by simpa using hu3
           simp -implicitDefEqProofs only [go_sem, h3, Bool.or_false, Bool.or_true])
        | (have h3 : ¬ u = 3 := by simpa using hu3
           simp -implicitDefEqProofs only [go_sem, h3, Bool.or_false, Bool.or_true])

set_option maxHeartbeats 4000000 in
theorem back1 (h8 : K 8 = pureC awakeF) (h9 : K 9 = pureC printF) (h11 : K 11 = pureC checkF) (h22 : K 22 = pureC parseF) (h23 : K 23 = pureC mergeF) (h24 : K 24 = pureC itemsF) {u v : Int} {st sv : Bool} {more : List UInt8} (fin' : ∀ cw', Q .ret [(6, .bool true)] cw')
    {cw : CW} {p7 p8 : Nat} (l7 : p7 < cw.next) (l8 : p8 < cw.next) (g7 : cw.get p7 = some (.cells [.int .i64 u, .bool st])) (g8 : cw.get p8 = some (.cells [.int .i64 v, .bool sv])) :
    wpk K Q f_footmanlaw38_PrioBack_p1 [] [(2, .str more), (7, .ptr p7 0), (8, .ptr p8 0)] cw := by
  have h71 : (p7 = cw.next) = False := by simp; omega
  have h81 : (p8 = cw.next) = False := by simp; omega
  have h72 : (p7 = cw.next + 1) = False := by simp; omega
  have h82 : (p8 = cw.next + 1) = False := by simp; omega
  by_cases hu : checkM u = 0
  case neg =>
    have hub : (checkM u == 0) = false := by simpa using hu
    cases hl : decide ((more.length : Int) > 100)
    all_goals
      simp -implicitDefEqProofs only [f_footmanlaw38_PrioBack_p1, go_sem, g7, g8, wpa_pure h9, wpa_pure h11, wpa_pure h8, printF, printM_bad hu, checkF, awakeF, hl, not_beq, hub]
      exact fin' _
  have hub : (checkM u == 0) = true := by simp [hu]
  cases hv : (checkM v == 0)
  case false =>
    cases hl : decide ((more.length : Int) > 100)
    all_goals
      simp -implicitDefEqProofs only [f_footmanlaw38_PrioBack_p1, go_sem, g7, g8, wpa_pure h9, wpa_pure h11, wpa_pure h8, printF, printM_ok hu, checkF, awakeF, hl, not_beq, hub, hv]
      exact fin' _
  have hv0 : checkM v = 0 := by simpa using hv
  cases hl : decide ((more.length : Int) > 100)
  case true =>
    simp -implicitDefEqProofs only [f_footmanlaw38_PrioBack_p1, go_sem, g7, g8, wpa_pure h9, wpa_pure h11, wpa_pure h8, printF, printM_ok hu, checkF, awakeF, hl, not_beq, hub, hv]
    exact fin' _
  have hml : more.length ≤ 100 := by simp only [decide_eq_false_iff_not] at hl; omega
  obtain ⟨p1, p2, p3, p4, p5⟩ := pr_of hu st
  have hsl : (prS u st).length ≤ 100000 := by omega
  simp -implicitDefEqProofs only [f_footmanlaw38_PrioBack_p1, go_sem, g7, g8, h71, h81, h72, h82, wpa_pure h9, wpa_pure h11, wpa_pure h8, wpa_pure h22, wpa_pure h23, printF, printM_ok hu, checkF, parseF, mergeF, awakeF, hl, not_beq, hub, hv, hsl, p2, p3 v sv hv0]
  refine back2 (u := u) (v := v) (st := st) (sv := sv) rfl rfl rfl rfl rfl rfl rfl rfl rfl (by simp -implicitDefEqProofs only [go_sem, h71, h72, g7]) (by simp -implicitDefEqProofs only [go_sem, h81, h82, g8]) (by simp -implicitDefEqProofs only [go_sem]; omega) fun cw' hn hk h15 => ?_
  simp -implicitDefEqProofs only [go_sem] at hn hk h15
  refine back3 (u := u) (st := st) rfl rfl rfl rfl rfl rfl rfl rfl rfl ?_ ?_ ?_ h15 (back4 h8 h22 h24 hu hml fin' rfl rfl rfl ?_ ?_)
  · rw [hk _ (by omega)]; simp -implicitDefEqProofs only [go_sem, h71, h72, g7]
  · rw [hk _ (by omega)]; simp -implicitDefEqProofs only [go_sem]
  · rw [hk _ (by omega)]; simp -implicitDefEqProofs only [go_sem]
  · omega
  · rw [hk _ (by omega)]; simp -implicitDefEqProofs only [go_sem, h71, h72, g7]

set_option maxHeartbeats 4000000 in
theorem back_run (h8 : K 8 = pureC awakeF) (h9 : K 9 = pureC printF) (h11 : K 11 = pureC checkF) (h22 : K 22 = pureC parseF) (h23 : K 23 = pureC mergeF) (h24 : K 24 = pureC itemsF) (u v : Int) (st sv : Bool) (more : List UInt8) :
    wpF K f_footmanlaw38_PrioBack [.agg [.int .i64 u, .bool st], .agg [.int .i64 v, .bool sv], .str more] cw0 fun v _ => v = .bool true := by
  refine top_run rfl fun Q fin => ?_
  have fin' : ∀ cw', Q .ret [(6, .bool true)] cw' := fun cw' => fin _ _ rfl
  clear fin
  simp -implicitDefEqProofs only [f_footmanlaw38_PrioBack, go_sem]
  intro o ho
  simp only [List.mem_cons, List.not_mem_nil, or_false] at ho
  have hb := @back1 K Q h8 h9 h11 h22 h23 h24 u v st sv more fin'
  rcases ho with rfl | rfl | rfl | rfl | rfl | rfl | rfl | rfl | rfl | rfl | rfl | rfl | rfl | rfl | rfl | rfl | rfl | rfl | rfl | rfl | rfl | rfl | rfl | rfl | rfl | rfl | rfl | rfl | rfl | rfl
  all_goals
    simp -implicitDefEqProofs only [List.map, Option.getD_some, go_sem]
    refine hb ?_ ?_ ?_ ?_ <;> simp -implicitDefEqProofs only [go_sem]
    all_goals decide

end Go.Cs

/- The seat of prio: the contracts of its functions, one upon another. -/
namespace Go.Cs
open Go.Proofs (Tryd.prog)

theorem follows : Tryd.prog.follows .mixedOrders = true := by kernel_rfl

def t0 : Tab := []
theorem ks0 : KSound Tryd.prog fidP GP t0.K := Tab.nil_sound

def t1 : Tab := (65, .p idxF) :: t0
theorem ks1 : KSound Tryd.prog fidP GP (Tab.K t1) := Tab.cons_sound ks0 fun f hf => by
  obtain rfl := lk_only (n := 63) (by kernel_rfl) f hf
  exact idx_sound

def t2 : Tab := (26, .p itoaF) :: t1
theorem ks2 : KSound Tryd.prog fidP GP (Tab.K t2) := Tab.cons_sound ks1 fun f hf => by
  obtain rfl := lk_only (n := 21) (by kernel_rfl) f hf
  exact itoa_sound

def t3 : Tab := (33, .p trimF) :: t2
theorem ks3 : KSound Tryd.prog fidP GP (Tab.K t3) := Tab.cons_sound ks2 fun f hf => by
  obtain rfl := lk_only (n := 28) (by kernel_rfl) f hf
  exact trim_sound

def t4 : Tab := (48, .p cut3F) :: t3
theorem ks4 : KSound Tryd.prog fidP GP (Tab.K t4) := Tab.cons_sound ks3 fun f hf => by
  obtain rfl := lk_only (n := 46) (by kernel_rfl) f hf
  exact cut_sound

def t5 : Tab := (34, .p splitF) :: t4
theorem ks5 : KSound Tryd.prog fidP GP (Tab.K t5) := Tab.cons_sound ks4 fun f hf => by
  obtain rfl := lk_only (n := 29) (by kernel_rfl) f hf
  exact split_sound

def t6 : Tab := (27, .e joinF) :: t5
theorem ks6 : KSound Tryd.prog fidP GP (Tab.K t6) := Tab.cons_sound ks5 fun f hf => by
  obtain rfl := lk_only (n := 22) (by kernel_rfl) f hf
  exact join_sound

def t7 : Tab := (67, .p hasF) :: t6
theorem ks7 : KSound Tryd.prog fidP GP (Tab.K t7) := Tab.cons_sound ks6 fun f hf => by
  obtain rfl := lk_only (n := 71) (by kernel_rfl) f hf
  exact fn_p follows ks6 Go.Proofs.Tryd.func71 (by decide) e_internal_stringslite_HasPrefix (by kernel_rfl) (has_runs)

def t8 : Tab := (56, .p cutF) :: t7
theorem ks8 : KSound Tryd.prog fidP GP (Tab.K t8) := Tab.cons_sound ks7 fun f hf => by
  obtain rfl := lk_only (n := 54) (by kernel_rfl) f hf
  exact fn_p follows ks7 Go.Proofs.Tryd.func54 (by decide) e_internal_stringslite_CutPrefix (by kernel_rfl) (cutS_runs rfl)

def t9 : Tab := (38, .p cutF) :: t8
theorem ks9 : KSound Tryd.prog fidP GP (Tab.K t9) := Tab.cons_sound ks8 fun f hf => by
  obtain rfl := lk_only (n := 36) (by kernel_rfl) f hf
  exact fn_p follows ks8 Go.Proofs.Tryd.func36 (by decide) e_strings_CutPrefix (by kernel_rfl) (cut_runs rfl)

def t10 : Tab := (39, .p clsF) :: t9
theorem ks10 : KSound Tryd.prog fidP GP (Tab.K t10) := Tab.cons_sound ks9 fun f hf => by
  obtain rfl := lk_only (n := 37) (by kernel_rfl) f hf
  exact fn_p follows ks9 Go.Proofs.Tryd.func37 (by decide) e_prio_class (by kernel_rfl) (class_runs)

def t11 : Tab := (49, .p wordF) :: t10
theorem ks11 : KSound Tryd.prog fidP GP (Tab.K t11) := Tab.cons_sound ks10 fun f hf => by
  obtain rfl := lk_only (n := 47) (by kernel_rfl) f hf
  exact fn_p follows ks10 Go.Proofs.Tryd.func47 (by decide) e_prio_word (by kernel_rfl) (word_runs rfl rfl)

def t12 : Tab := (32, .p numF) :: t11
theorem ks12 : KSound Tryd.prog fidP GP (Tab.K t12) := Tab.cons_sound ks11 fun f hf => by
  obtain rfl := lk_only (n := 27) (by kernel_rfl) f hf
  exact fn_p follows ks11 Go.Proofs.Tryd.func27 (by decide) e_prio_number (by kernel_rfl) (number_runs rfl rfl)

def t13 : Tab := (50, .p bareF) :: t12
theorem ks13 : KSound Tryd.prog fidP GP (Tab.K t13) := Tab.cons_sound ks12 fun f hf => by
  obtain rfl := lk_only (n := 48) (by kernel_rfl) f hf
  exact fn_p follows ks12 Go.Proofs.Tryd.func48 (by decide) e_prio_bare (by kernel_rfl) (bare_runs rfl rfl)

def t14 : Tab := (35, .p itemF) :: t13
theorem ks14 : KSound Tryd.prog fidP GP (Tab.K t14) := Tab.cons_sound ks13 fun f hf => by
  obtain rfl := lk_only (n := 30) (by kernel_rfl) f hf
  exact fn_p follows ks13 Go.Proofs.Tryd.func30 (by decide) e_prio_item (by kernel_rfl) (item_runs rfl rfl rfl rfl)

def t15 : Tab := (24, .p itemsF) :: t14
theorem ks15 : KSound Tryd.prog fidP GP (Tab.K t15) := Tab.cons_sound ks14 fun f hf => by
  obtain rfl := lk_only (n := 20) (by kernel_rfl) f hf
  exact fn_p follows ks14 Go.Proofs.Tryd.func20 (by decide) e_prio_Items (by kernel_rfl) (items_runs rfl rfl rfl)

def t16 : Tab := (11, .p checkF) :: t15
theorem ks16 : KSound Tryd.prog fidP GP (Tab.K t16) := Tab.cons_sound ks15 fun f hf => by
  obtain rfl := lk_only (n := 8) (by kernel_rfl) f hf
  exact fn_p follows ks15 Go.Proofs.Tryd.func8 (by decide) e_prio_Check (by kernel_rfl) (check_runs)

def t17 : Tab := (19, .p usualF) :: t16
theorem ks17 : KSound Tryd.prog fidP GP (Tab.K t17) := Tab.cons_sound ks16 fun f hf => by
  obtain rfl := lk_only (n := 16) (by kernel_rfl) f hf
  exact fn_p follows ks16 Go.Proofs.Tryd.func16 (by decide) e_prio_Usual (by kernel_rfl) (usual_runs)

def t18 : Tab := (31, .e lastF) :: t17
theorem ks18 : KSound Tryd.prog fidP GP (Tab.K t18) := Tab.cons_sound ks17 fun f hf => by
  obtain rfl := lk_only (n := 26) (by kernel_rfl) f hf
  exact fn_e follows ks17 Go.Proofs.Tryd.func26 (by decide) e_prio_Merge_1 (by kernel_rfl) (last_runs)

def t19 : Tab := (23, .p mergeF) :: t18
theorem ks19 : KSound Tryd.prog fidP GP (Tab.K t19) := Tab.cons_sound ks18 fun f hf => by
  obtain rfl := lk_only (n := 19) (by kernel_rfl) f hf
  exact fn_p follows ks18 Go.Proofs.Tryd.func19 (by decide) e_prio_Merge (by kernel_rfl) (merge_runs rfl rfl rfl rfl)

def t20 : Tab := (22, .p parseF) :: t19
theorem ks20 : KSound Tryd.prog fidP GP (Tab.K t20) := Tab.cons_sound ks19 fun f hf => by
  obtain rfl := lk_only (n := 18) (by kernel_rfl) f hf
  exact fn_p follows ks19 Go.Proofs.Tryd.func18 (by decide) e_prio_Parse (by kernel_rfl) (parse_runs rfl rfl)

def t21 : Tab := (9, .p printF) :: t20
theorem ks21 : KSound Tryd.prog fidP GP (Tab.K t21) := Tab.cons_sound ks20 fun f hf => by
  obtain rfl := lk_only (n := 6) (by kernel_rfl) f hf
  exact fn_p follows ks20 Go.Proofs.Tryd.func6 (by decide) e_prio_Print (by kernel_rfl) (print_runs rfl rfl rfl)

end Go.Cs

/- The seat of prio: awake(), by the interpreter. -/
namespace Go.Cs
open Go.Proofs (Tryd.prog)

def Gt : List (Nat × RF) := [(8, f_footmanlaw38_awake), (13, f_prio_Less), (18, f_footmanref15_SameInts), (16, f_prio_Sort), (28, f_prio_Prio_compare), (30, f_slices_SortStableFunc_int_int), (29, f_prio_Sort_1), (37, f_slices_stableCmpFunc_int), (54, f_slices_insertionSortCmpFunc_int), (55, f_slices_symMergeCmpFunc_int), (66, f_slices_rotateCmpFunc_int), (77, f_slices_swapRangeCmpFunc_int)]

theorem ent8 : Ent Tryd.prog fidP (pureX Gt t21) (8, f_footmanlaw38_awake) := fun f hf => by
  obtain rfl := lk_only (n := 5) (by kernel_rfl) f hf
  exact ⟨_, _, Go.Proofs.Tryd.func5, by decide, e_footmanlaw38_awake, by kernel_rfl⟩
theorem ent13 : Ent Tryd.prog fidP (pureX Gt t21) (13, f_prio_Less) := fun f hf => by
  obtain rfl := lk_only (n := 10) (by kernel_rfl) f hf
  exact ⟨_, _, Go.Proofs.Tryd.func10, by decide, e_prio_Less, by kernel_rfl⟩
theorem ent18 : Ent Tryd.prog fidP (pureX Gt t21) (18, f_footmanref15_SameInts) := fun f hf => by
  obtain rfl := lk_only (n := 12) (by kernel_rfl) f hf
  exact ⟨_, _, Go.Proofs.Tryd.func12, by decide, e_footmanref15_SameInts, by kernel_rfl⟩
theorem ent16 : Ent Tryd.prog fidP (pureX Gt t21) (16, f_prio_Sort) := fun f hf => by
  obtain rfl := lk_only (n := 13) (by kernel_rfl) f hf
  exact ⟨_, _, Go.Proofs.Tryd.func13, by decide, e_prio_Sort, by kernel_rfl⟩
theorem ent28 : Ent Tryd.prog fidP (pureX Gt t21) (28, f_prio_Prio_compare) := fun f hf => by
  obtain rfl := lk_only (n := 23) (by kernel_rfl) f hf
  exact ⟨_, _, Go.Proofs.Tryd.func23, by decide, e_prio_Prio_compare, by kernel_rfl⟩
theorem ent30 : Ent Tryd.prog fidP (pureX Gt t21) (30, f_slices_SortStableFunc_int_int) := fun f hf => by
  obtain rfl := lk_only (n := 24) (by kernel_rfl) f hf
  exact ⟨_, _, Go.Proofs.Tryd.func24, by decide, e_slices_SortStableFunc_int_int, by kernel_rfl⟩
theorem ent29 : Ent Tryd.prog fidP (pureX Gt t21) (29, f_prio_Sort_1) := fun f hf => by
  obtain rfl := lk_only (n := 25) (by kernel_rfl) f hf
  exact ⟨_, _, Go.Proofs.Tryd.func25, by decide, e_prio_Sort_1, by kernel_rfl⟩
theorem ent37 : Ent Tryd.prog fidP (pureX Gt t21) (37, f_slices_stableCmpFunc_int) := fun f hf => by
  obtain rfl := lk_only (n := 35) (by kernel_rfl) f hf
  exact ⟨_, _, Go.Proofs.Tryd.func35, by decide, e_slices_stableCmpFunc_int, by kernel_rfl⟩
theorem ent54 : Ent Tryd.prog fidP (pureX Gt t21) (54, f_slices_insertionSortCmpFunc_int) := fun f hf => by
  obtain rfl := lk_only (n := 52) (by kernel_rfl) f hf
  exact ⟨_, _, Go.Proofs.Tryd.func52, by decide, e_slices_insertionSortCmpFunc_int, by kernel_rfl⟩
theorem ent55 : Ent Tryd.prog fidP (pureX Gt t21) (55, f_slices_symMergeCmpFunc_int) := fun f hf => by
  obtain rfl := lk_only (n := 53) (by kernel_rfl) f hf
  exact ⟨_, _, Go.Proofs.Tryd.func53, by decide, e_slices_symMergeCmpFunc_int, by kernel_rfl⟩
theorem ent216 : Ent Tryd.prog fidP (pureX Gt t21) (66, f_slices_rotateCmpFunc_int) := fun f hf => by
  obtain rfl := lk_only (n := 70) (by kernel_rfl) f hf
  exact ⟨_, _, Go.Proofs.Tryd.func70, by decide, e_slices_rotateCmpFunc_int, by kernel_rfl⟩
theorem ent77 : Ent Tryd.prog fidP (pureX Gt t21) (77, f_slices_swapRangeCmpFunc_int) := fun f hf => by
  obtain rfl := lk_only (n := 84) (by kernel_rfl) f hf
  exact ⟨_, _, Go.Proofs.Tryd.func84, by decide, e_slices_swapRangeCmpFunc_int, by kernel_rfl⟩
theorem ents : ∀ p ∈ Gt, Ent Tryd.prog fidP (pureX Gt t21) p := by
  simp only [Gt, List.forall_mem_cons]
  exact ⟨ent8, ent13, ent18, ent16, ent28, ent30, ent29, ent37, ent54, ent55, ent216, ent77, fun _ h => by cases h⟩

def isT : Option (CV × CW) → Bool
  | some (.bool b, _) => b
  | _ => false
theorem awake_true : isT (callX (runG Gt) (Tab.F t21) 60 8 [] ⟨fun _ => none, 0⟩) = true := by kernel_rfl

theorem awake_sound : Sound Tryd.prog fidP GP 5 (Con.p awakeF).ct := by
  have hx : ∃ r : CV × CW, callX (runG Gt) (Tab.F t21) 60 8 [] ⟨fun _ => none, 0⟩ = some r ∧ r.1 = .bool true := by
    have h := awake_true
    generalize callX (runG Gt) (Tab.F t21) 60 8 [] ⟨fun _ => none, 0⟩ = o at h ⊢
    unfold isT at h
    split at h
    · subst h; exact ⟨_, rfl, rfl⟩
    · cases h
  have hs := run_sound follows ents ks21 60 5 8 (by kernel_rfl) ⟨[], ⟨fun _ => none, 0⟩, fun _ _ => True, by obtain ⟨r, h, _⟩ := hx; exact ⟨r, h, trivial⟩⟩
  refine (sound_closed (v := .bool true) hs GP_st (args := []) rfl rfl ?_).weaken ?_
  · obtain ⟨r, h1, h2⟩ := hx
    exact ⟨r, h1, h2⟩
  · rintro args cw Q ⟨v, hv, hq⟩
    unfold awakeF at hv
    split at hv
    · cases hv; exact ⟨rfl, hq⟩
    · cases hv

def tA : Tab := (8, .p awakeF) :: t21
theorem ksA : KSound Tryd.prog fidP GP (Tab.K tA) := Tab.cons_sound ks21 fun f hf => by
  obtain rfl := lk_only (n := 5) (by kernel_rfl) f hf
  exact awake_sound

theorem back_sound : Sound Tryd.prog fidP GP 4 (wpF (Tab.K tA) f_footmanlaw38_PrioBack) :=
  sound_of follows ksA (Tab.ok tA) Go.Proofs.Tryd.func4 (by decide) e_footmanlaw38_PrioBack (by kernel_rfl) fun _ _ _ h => h

end Go.Cs

/- prio: the order of keys; what sorting makes: plain. -/
namespace Go.Cs

abbrev Key := Int × Bool
def kU (ks : List Key) (x : Int) : Int := (ks.getD x.toNat (0, false)).1
def kS (ks : List Key) (x : Int) : Int := if (ks.getD x.toNat (0, false)).2 then 1 else 0
/-- Is one ahead of another, or the same? Of those with one key, the one that stood first. -/
def leI (ks : List Key) (x y : Int) : Bool := decide (kU ks x < kU ks y ∨ (kU ks x = kU ks y ∧ (kS ks x < kS ks y ∨ (kS ks x = kS ks y ∧ x ≤ y))))
/-- Is one's key ahead of another's? -/
def ltI (ks : List Key) (x y : Int) : Bool := decide (kU ks x < kU ks y ∨ (kU ks x = kU ks y ∧ kS ks x < kS ks y))

theorem leI_trans (ks : List Key) (a b c : Int) (h1 : leI ks a b = true) (h2 : leI ks b c = true) : leI ks a c = true := by
  simp only [leI, decide_eq_true_eq] at *
  omega
theorem leI_total (ks : List Key) (a b : Int) : (leI ks a b || leI ks b a) = true := by
  simp only [leI, Bool.or_eq_true, decide_eq_true_eq]
  omega
theorem leI_antisymm {ks : List Key} {a b : Int} (h1 : leI ks a b = true) (h2 : leI ks b a = true) : a = b := by
  simp only [leI, decide_eq_true_eq] at *
  omega
theorem leI_of_lt {ks : List Key} {a b : Int} (h : ltI ks a b = true) : leI ks a b = true := by
  simp only [leI, ltI, decide_eq_true_eq] at *
  omega
theorem leI_of_not {ks : List Key} {a b : Int} (h : ltI ks b a = false) (hab : a ≤ b) : leI ks a b = true := by
  simp only [leI, ltI, decide_eq_true_eq, decide_eq_false_iff_not] at *
  omega
theorem leI_not {ks : List Key} {a b : Int} (h : leI ks a b = true) (hab : a < b) : ltI ks b a = false := by
  simp only [leI, ltI, decide_eq_true_eq, decide_eq_false_iff_not] at *
  omega

abbrev Srt (ks : List Key) (l : List Int) : Prop := l.Pairwise fun a b => leI ks a b = true
def srt (ks : List Key) (l : List Int) : List Int := l.mergeSort (leI ks)

theorem srt_sorted (ks : List Key) (l : List Int) : Srt ks (srt ks l) := List.pairwise_mergeSort (leI_trans ks) (leI_total ks) l
theorem srt_perm (ks : List Key) (l : List Int) : (srt ks l).Perm l := List.mergeSort_perm l _
theorem srt_unique {ks : List Key} {l m : List Int} (hp : m.Perm l) (hs : Srt ks m) : m = srt ks l :=
  List.Perm.eq_of_pairwise (fun _ _ _ _ h1 h2 => leI_antisymm h1 h2) hs (srt_sorted ks l) (hp.trans (srt_perm ks l).symm)
theorem srt_of_perm {ks : List Key} {l m : List Int} (hp : l.Perm m) : srt ks l = srt ks m := srt_unique ((srt_perm ks l).trans hp) (srt_sorted ks l)
theorem srt_id {ks : List Key} {l : List Int} (hs : Srt ks l) : srt ks l = l := (srt_unique (List.Perm.refl l) hs).symm
theorem srt_length (ks : List Key) (l : List Int) : (srt ks l).length = l.length := (srt_perm ks l).length_eq
theorem srt_append {ks : List Key} {l m : List Int} (h : ∀ a ∈ l, ∀ b ∈ m, leI ks a b = true) : srt ks l ++ srt ks m = srt ks (l ++ m) := by
  refine srt_unique ((srt_perm ks l).append (srt_perm ks m)) (List.pairwise_append.2 ⟨srt_sorted ks l, srt_sorted ks m, fun a ha b hb => h a ((srt_perm ks l).mem_iff.1 ha) b ((srt_perm ks m).mem_iff.1 hb)⟩)

theorem all_le_last {ks : List Key} {x : Int} : ∀ {L : List Int}, Srt ks L → (∀ a, L.getLast? = some a → leI ks a x = true) → ∀ a ∈ L, leI ks a x = true := by
  intro L
  induction L with
  | nil => intro _ _ a ha; cases ha
  | cons b L ih =>
    intro hs hl a ha
    rw [Srt, List.pairwise_cons] at hs
    cases L with
    | nil =>
      rcases List.mem_cons.1 ha with rfl | ha
      · exact hl _ rfl
      · cases ha
    | cons c L =>
      have hc := ih hs.2 (fun a h => hl a (by rw [List.getLast?_cons_cons]; exact h))
      rcases List.mem_cons.1 ha with rfl | ha
      · exact leI_trans ks _ _ _ (hs.1 c (List.mem_cons_self ..)) (hc c (List.mem_cons_self ..))
      · exact hc a ha
theorem all_ge_head {ks : List Key} {x : Int} {R : List Int} (hs : Srt ks R) (hr : ∀ b, R.head? = some b → leI ks x b = true) : ∀ b ∈ R, leI ks x b = true := by
  cases R with
  | nil => intro b hb; cases hb
  | cons c R =>
    intro b hb
    rw [Srt, List.pairwise_cons] at hs
    rcases List.mem_cons.1 hb with rfl | hb
    · exact hr _ rfl
    · exact leI_trans ks _ _ _ (hr c rfl) (hs.1 b hb)

/-- One that is put where it belongs. -/
theorem srt_insert {ks : List Key} {x : Int} {L R : List Int} (hs : Srt ks (L ++ R)) (hl : ∀ a, L.getLast? = some a → leI ks a x = true) (hr : ∀ b, R.head? = some b → leI ks x b = true) : Srt ks (L ++ x :: R) := by
  rw [Srt, List.pairwise_append] at hs ⊢
  obtain ⟨h1, h2, h3⟩ := hs
  have a1 := all_le_last h1 hl
  have a2 := all_ge_head h2 hr
  refine ⟨h1, List.pairwise_cons.2 ⟨a2, h2⟩, fun a ha b hb => ?_⟩
  rcases List.mem_cons.1 hb with rfl | hb
  · exact a1 a ha
  · exact h3 a ha b hb

/-! ## A segment -/
def seg (zs : List Int) (a e : Nat) : List Int := (zs.take e).drop a
/-- A segment laid anew. -/
def lay (zs : List Int) (a e : Nat) (m : List Int) : List Int := zs.take a ++ m ++ zs.drop e
def sortSeg (ks : List Key) (zs : List Int) (a e : Nat) : List Int := lay zs a e (srt ks (seg zs a e))

theorem seg_length {zs : List Int} {a e : Nat} (h2 : e ≤ zs.length) : (seg zs a e).length = e - a := by
  simp [seg]; omega
theorem lay_seg {zs : List Int} {a e : Nat} (h1 : a ≤ e) : lay zs a e (seg zs a e) = zs := by
  unfold lay seg
  have : zs.take a = (zs.take e).take a := by rw [List.take_take, Nat.min_eq_left h1]
  rw [this, List.take_append_drop, List.take_append_drop]
theorem lay_length {zs m : List Int} {a e : Nat} (h1 : a ≤ e) (h2 : e ≤ zs.length) (hm : m.length = e - a) : (lay zs a e m).length = zs.length := by
  simp [lay]; omega
theorem lay_lay {zs m m' : List Int} {a e : Nat} (h1 : a ≤ e) (h2 : e ≤ zs.length) (hm : m.length = e - a) : lay (lay zs a e m) a e m' = lay zs a e m' := by
  unfold lay
  have e1 : (zs.take a ++ m ++ zs.drop e).take a = zs.take a := by
    rw [List.append_assoc, List.take_append_of_le_length (by simp; omega), List.take_take, Nat.min_self]
  have e2 : (zs.take a ++ m ++ zs.drop e).drop e = zs.drop e := List.drop_left' (by simp; omega)
  rw [e1, e2]
theorem seg_lay {zs m : List Int} {a e : Nat} (h1 : a ≤ e) (h2 : e ≤ zs.length) (hm : m.length = e - a) : seg (lay zs a e m) a e = m := by
  unfold lay seg
  rw [List.take_left' (by simp; omega), List.drop_left' (by simp; omega)]

/-- All in range. -/
def inR (n : Nat) (zs : List Int) : Prop := ∀ z ∈ zs, 0 ≤ z ∧ z < n
def asc (l : List Int) : Prop := l.Pairwise (· < ·)

end Go.Cs

/- prio: comparing. -/
namespace Go.Cs
variable {K : Nat → Ct}

theorem not_beq' {α : Type} [BEq α] (a b : α) : (a != b) = !(a == b) := rfl

def cmpI (a b : Key) : Int := if a.1 = b.1 then (if a.2 = b.2 then 0 else if b.2 then -1 else 1) else if a.1 < b.1 then -1 else 1
/-- prio.Prio.compare. -/
def cmpF : List CV → Option CV
  | [.agg [.int .i64 u, .bool s], .agg [.int .i64 v, .bool t]] => some (.int .i64 (cmpI (u, s) (v, t)))
  | _ => none
def lessF : List CV → Option CV
  | [.agg [.int .i64 u, .bool s], .agg [.int .i64 v, .bool t]] => some (.bool (decide (cmpI (u, s) (v, t) < 0)))
  | _ => none

theorem cmp_runs : ∀ args v, cmpF args = some v → args.length = f_prio_Prio_compare.np ∧ ∀ cw, Runs K f_prio_Prio_compare args cw v := by
  intro args r h
  unfold cmpF at h
  split at h
  · rename_i u s v t
    cases h
    refine ⟨rfl, fun cw Q hQ => ?_⟩
    have fin : ∀ (cw' : CW) n, n = cmpI (u, s) (v, t) → (∀ b, b < cw.next → cw'.get b = cw.get b) → Q .ret [(4, .int .i64 n)] cw' := by
      rintro cw' n rfl hk
      exact hQ .ret _ _ _ (.inr rfl) rfl (.int _ _) hk
    clear hQ
    have hk : ∀ o1 o2, ∀ b, b < cw.next → ((cw.push o1).push o2).get b = cw.get b := fun o1 o2 b hb => by rw [push_old (by simp only [go_sem]; omega), push_old (by omega)]
    simp -implicitDefEqProofs only [f_prio_Prio_compare, go_sem, not_beq']
    cases h1 : (u == v) <;> simp -implicitDefEqProofs only [go_sem]
    · have h1' : ¬ u = v := by simpa using h1
      cases h2 : decide (u < v) <;> simp -implicitDefEqProofs only [go_sem] <;> refine fin _ _ ?_ (hk _ _) <;> simp at h2 <;> simp [cmpI, h1'] <;> omega
    · have h1' : u = v := by simpa using h1
      cases s <;> cases t <;> simp -implicitDefEqProofs only [go_sem] <;> refine fin _ _ ?_ (hk _ _) <;> simp [cmpI, h1']
  · cases h

theorem less_runs (h28 : K 28 = pureC cmpF) : ∀ args v, lessF args = some v → args.length = f_prio_Less.np ∧ ∀ cw, Runs K f_prio_Less args cw v := by
  intro args r h
  unfold lessF at h
  split at h
  · rename_i u s v t
    cases h
    refine ⟨rfl, fun cw Q hQ => ?_⟩
    simp -implicitDefEqProofs only [f_prio_Less, go_sem, wpa_pure h28, cmpF]
    exact hQ .ret _ _ _ (.inr rfl) rfl (.bool _) fun b hb => by rw [push_old (by simp only [go_sem]; omega), push_old (by omega)]
  · cases h

/-! ## The closure -/
def keysOf : List CV → Option (List Key)
  | [] => some []
  | .int .i64 u :: .bool s :: r => (keysOf r).bind fun l => some ((u, s) :: l)
  | _ => none
def keyCells : List Key → List CV
  | [] => []
  | k :: r => .int .i64 k.1 :: .bool k.2 :: keyCells r
theorem keysOf_spec : ∀ {cs : List CV} {ks : List Key}, keysOf cs = some ks → cs = keyCells ks := by
  intro cs
  induction cs using keysOf.induct with
  | case1 => intro ks h; cases h; rfl
  | case2 u s r ih =>
    intro ks h
    simp only [keysOf, Option.bind_eq_some_iff] at h
    obtain ⟨l, hl, h⟩ := h
    cases h
    rw [ih hl]; rfl
  | case3 cs h1 h2 =>
    intro ks h
    unfold keysOf at h
    split at h
    · exact absurd rfl h1
    · exact absurd rfl (h2 _ _ _)
    · cases h
theorem keysOf_keyCells : ∀ ks : List Key, keysOf (keyCells ks) = some ks
  | [] => rfl
  | k :: r => by simp only [keyCells, keysOf, keysOf_keyCells r, Option.bind_some]
theorem keyCells_length : ∀ ks : List Key, (keyCells ks).length = ks.length * 2
  | [] => rfl
  | k :: r => by simp only [keyCells, List.length_cons, keyCells_length r]; omega
theorem keyCells_at : ∀ (ks : List Key) (i : Nat), i < ks.length → ldc true 2 (keyCells ks) (i * 2) = some (.agg [.int .i64 (ks.getD i (0, false)).1, .bool (ks.getD i (0, false)).2])
  | [], i, h => by simp at h
  | k :: r, 0, h => by simp [ldc, keyCells]
  | k :: r, i + 1, h => by
    have ih := keyCells_at r i (by simpa using h)
    have hl := keyCells_length r
    simp only [ldc, if_true] at ih ⊢
    have hr : i < r.length := by simpa using h
    rw [if_pos (by omega)] at ih
    rw [if_pos (by simp only [keyCells, List.length_cons]; omega)]
    have e : (i + 1) * 2 = i * 2 + 1 + 1 := by omega
    rw [e]
    simp only [keyCells, List.drop_succ_cons, List.getD_cons_succ]
    exact ih

/-- What the closure looks at. -/
def ctxOf (cw : CW) (o l : Nat) : Option (List Key) :=
  match cw.get o, cw.get l with
  | some (.cells [.fn 28 [] []]), some (.cells [.vec cs n _]) => (keysOf cs).bind fun ks => if ks.length = n then some ks else none
  | some (.cells [.fn 28 [] []]), some (.cells [.nils]) => some []
  | _, _ => none
theorem ctxOf_same {cw cw' : CW} {o l : Nat} (h1 : cw'.get o = cw.get o) (h2 : cw'.get l = cw.get l) : ctxOf cw' o l = ctxOf cw o l := by unfold ctxOf; rw [h1, h2]
theorem ctxOf_cases {cw : CW} {o l : Nat} {ks : List Key} (h : ctxOf cw o l = some ks) :
    cw.get o = some (.cells [.fn 28 [] []]) ∧ ((∃ clip, cw.get l = some (.cells [.vec (keyCells ks) ks.length clip])) ∨ (cw.get l = some (.cells [.nils]) ∧ ks = [])) := by
  unfold ctxOf at h
  split at h
  · rename_i cs n clip h1 h2
    simp only [Option.bind_eq_some_iff] at h
    obtain ⟨ks', hk, h⟩ := h
    split at h
    · rename_i hl
      cases h
      subst hl
      rw [keysOf_spec hk] at h2
      exact ⟨h1, .inl ⟨_, h2⟩⟩
    · cases h
  · rename_i h1 h2
    cases h
    exact ⟨h1, .inr ⟨h2, rfl⟩⟩
  · cases h

def keyAt (ks : List Key) (i : Int) : Key := ks.getD i.toNat (0, false)
/-- prio.Sort's closure. -/
def cloF : List CV → CW → Option (CV × CW)
  | [.int .i64 i, .int .i64 k, .ptr o 0, .ptr l 0], cw => (ctxOf cw o l).bind fun ks => if 0 ≤ i ∧ i < ks.length ∧ 0 ≤ k ∧ k < ks.length then some (.int .i64 (cmpI (keyAt ks i) (keyAt ks k)), cw) else none
  | _, _ => none

theorem cmpI_lt (ks : List Key) (x y : Int) : decide (cmpI (keyAt ks x) (keyAt ks y) < 0) = ltI ks x y := by
  unfold cmpI ltI kU kS keyAt
  generalize ks.getD x.toNat (0, false) = a
  generalize ks.getD y.toNat (0, false) = b
  obtain ⟨u, s⟩ := a
  obtain ⟨v, t⟩ := b
  cases s <;> cases t <;> simp <;> (try split) <;> (try split) <;> simp <;> omega

theorem clo_runs (h28 : K 28 = pureC cmpF) : ∀ args cw v cw', cloF args cw = some (v, cw') → args.length = f_prio_Sort_1.np ∧ cw' = cw ∧ Runs K f_prio_Sort_1 args cw v := by
  intro args cw v cw' h
  unfold cloF at h
  split at h
  · rename_i i k o l
    simp only [Option.bind_eq_some_iff] at h
    obtain ⟨ks, hks, h⟩ := h
    split at h
    case isFalse => cases h
    rename_i hr
    cases h
    obtain ⟨ho, hl⟩ := ctxOf_cases hks
    obtain ⟨clip, hl⟩ : ∃ clip, cw.get l = some (.cells [.vec (keyCells ks) ks.length clip]) := by
      rcases hl with hl | ⟨_, rfl⟩
      · exact hl
      · simp at hr; omega
    refine ⟨rfl, rfl, fun Q hQ => ?_⟩
    have hi : 0 ≤ i ∧ i < (ks.length : Int) := ⟨hr.1, hr.2.1⟩
    have hk : 0 ≤ k ∧ k < (ks.length : Int) := ⟨hr.2.2.1, hr.2.2.2⟩
    have ai := keyCells_at ks i.toNat (by omega)
    have ak := keyCells_at ks k.toNat (by omega)
    simp only [ldc, if_true] at ai ak
    simp -implicitDefEqProofs only [f_prio_Sort_1, go_sem, ho, hl, hi, hk, ai, ak, wpa_pure h28, cmpF]
    exact hQ .ret _ _ _ (.inr rfl) rfl (.int _ _) fun _ _ => rfl
  · cases h

end Go.Cs

/- slices: sorting by insertion, over a row of integers. -/
namespace Go.Cs
variable {K : Nat → Ct} {P : Program} {fid : FuncId → Option Nat} {G : Nat → World → Prop}

/-! ## Functions that write what was there, and make nothing new -/
theorem wpF_st {f : RF} {F : List CV → CW → Option (CV × CW)}
    (h : ∀ args cw v cw', F args cw = some (v, cw') → args.length = f.np ∧ ∀ Q : RE → Env → CW → Prop, (∀ e ρ', (e = .nx ∨ e = .ret) → resV cw' ρ' f.rs = some v → Q e ρ' cw') → wpk K Q f.body [] (numb 0 args) cw)
    {args : List CV} {cw : CW} {Q : CV → CW → Prop} (hc : effC F args cw Q) : wpF K f args cw Q := by
  obtain ⟨⟨v, cw'⟩, hv, hq⟩ := hc
  obtain ⟨h1, h2⟩ := h args cw v cw' hv
  exact ⟨h1, h2 _ fun e ρ' he hr => ⟨he, v, v, cw', hr, .stay, hq⟩⟩
def RunsW (K : Nat → Ct) (f : RF) (F : List CV → CW → Option (CV × CW)) : Prop :=
  ∀ args cw v cw', F args cw = some (v, cw') → args.length = f.np ∧ ∀ Q : RE → Env → CW → Prop, (∀ e ρ', (e = .nx ∨ e = .ret) → resV cw' ρ' f.rs = some v → Q e ρ' cw') → wpk K Q f.body [] (numb 0 args) cw
theorem fn_w {t : Tab} (hm : P.follows .mixedOrders = true) (hK : KSound P fid G t.K) {f : FuncId} {fn : Func} {own : List Nat} {ir : RF} {F : List CV → CW → Option (CV × CW)} (hf : P.funcs[f]? = some fn) (hname : fn.name ≠ "runtime.NumGoroutine")
    (hres : resF P fid own fn = some ir.strip) (hok : ir.body.ok t.pure = true) (hr : RunsW t.K ir F) : Sound P fid G f (Con.e F).ct :=
  sound_of hm hK t.ok hf hname hres hok fun _ _ _ hc => wpF_st hr hc

/-! ## A row of integers -/
def ints (zs : List Int) : List CV := zs.map fun z => .int .i64 z
def intsOf : List CV → Option (List Int)
  | [] => some []
  | .int .i64 n :: r => (intsOf r).bind fun l => some (n :: l)
  | _ => none
theorem intsOf_spec : ∀ {cs : List CV} {zs : List Int}, intsOf cs = some zs → cs = ints zs := by
  intro cs
  induction cs using intsOf.induct with
  | case1 => intro ks h; cases h; rfl
  | case2 u r ih =>
    intro ks h
    simp only [intsOf, Option.bind_eq_some_iff] at h
    obtain ⟨l, hl, h⟩ := h
    cases h
    rw [ih hl]; rfl
  | case3 cs h1 h2 =>
    intro ks h
    unfold intsOf at h
    split at h
    · exact absurd rfl h1
    · exact absurd rfl (h2 _ _)
    · cases h
theorem intsOf_ints : ∀ zs : List Int, intsOf (ints zs) = some zs
  | [] => rfl
  | z :: r => by
    have := intsOf_ints r
    simp only [ints] at this
    simp only [ints, List.map_cons, intsOf, this, Option.bind_some]
theorem ints_length (zs : List Int) : (ints zs).length = zs.length := by simp [ints]
def datOf (cw : CW) (b n : Nat) : Option (List Int) :=
  match cw.get b with
  | some (.cells cs) => (intsOf cs).bind fun zs => if zs.length = n then some zs else none
  | _ => none
theorem datOf_cases {cw : CW} {b n : Nat} {zs : List Int} (h : datOf cw b n = some zs) : cw.get b = some (.cells (ints zs)) ∧ zs.length = n := by
  unfold datOf at h
  split at h
  · rename_i cs hg
    simp only [Option.bind_eq_some_iff] at h
    obtain ⟨zs', hz, h⟩ := h
    split at h
    · rename_i hl
      cases h
      rw [intsOf_spec hz] at hg
      exact ⟨hg, hl⟩
    · cases h
  · cases h
theorem datOf_of {cw : CW} {b n : Nat} {zs : List Int} (h : cw.get b = some (.cells (ints zs))) (hl : zs.length = n) : datOf cw b n = some zs := by
  simp [datOf, h, intsOf_ints, hl]

theorem set_set (cw : CW) (b : Nat) (o o' : CO) : (cw.set b o).set b o' = cw.set b o' := by
  simp only [CW.set, CW.mk.injEq, and_true]
  funext c
  split <;> rfl
theorem set_self {cw : CW} {b : Nat} {o : CO} (h : cw.get b = some o) : cw.set b o = cw := by
  obtain ⟨g, n⟩ := cw
  simp only [CW.set, CW.mk.injEq, and_true] at h ⊢
  funext c
  split
  · rename_i e; rw [e, h]
  · rfl

theorem ints_mid (A B : List Int) (x : Int) : (ints (A ++ x :: B))[A.length]? = some (.int .i64 x) := by simp [ints]
theorem ints_put (A B : List Int) (x v : Int) : (ints (A ++ x :: B)).take A.length ++ [.int .i64 v] ++ (ints (A ++ x :: B)).drop (A.length + 1) = ints (A ++ v :: B) := by
  have e1 : (ints (A ++ x :: B)).take A.length = ints A := by
    simp only [ints, List.map_append]
    exact List.take_left' (by simp)
  have e2 : (ints (A ++ x :: B)).drop (A.length + 1) = ints B := by
    simp only [ints, List.map_append, List.map_cons]
    rw [List.drop_append]
    simp
  rw [e1, e2]
  simp [ints]

open Classical in
/-- slices.insertionSortCmpFunc. -/
noncomputable def insF : List CV → CW → Option (CV × CW)
  | [.ref b 0 n 1, .int .i64 a, .int .i64 e, .fn 29 [] [.ptr o 0, .ptr l 0]], cw => (datOf cw b n).bind fun zs => (ctxOf cw o l).bind fun ks =>
    if o ≠ b ∧ l ≠ b ∧ 0 ≤ a ∧ a ≤ e ∧ e ≤ n ∧ n ≤ 1000 ∧ inR ks.length zs ∧ asc (seg zs a.toNat e.toNat) then some (.tup [], cw.set b (.cells (ints (sortSeg ks zs a.toNat e.toNat)))) else none
  | [.nils, .int .i64 0, .int .i64 0, _], cw => some (.tup [], cw)
  | _, _ => none

theorem seg_succ {zs : List Int} {a i : Nat} (h1 : a ≤ i) (h2 : i < zs.length) : seg zs a (i + 1) = seg zs a i ++ [zs[i]] := by
  unfold seg
  rw [List.take_succ_eq_append_getElem h2, List.drop_append_of_le_length (by simp; omega)]

set_option maxHeartbeats 1000000 in
theorem ins_runs (h29 : K 29 = effC cloF) : RunsW K f_slices_insertionSortCmpFunc_int insF := by
  intro args cw v cw' h
  unfold insF at h
  split at h
  · rename_i b n a0 e0 o l
    simp only [Option.bind_eq_some_iff] at h
    obtain ⟨zs, hzs, ks, hks, h⟩ := h
    split at h
    case isFalse => cases h
    rename_i hc
    cases h
    obtain ⟨hob, hlb, ha0, hae, hen, hn, hin, hasc⟩ := hc
    obtain ⟨hg, hlen⟩ := datOf_cases hzs
    obtain ⟨a, rfl⟩ := Int.eq_ofNat_of_zero_le ha0
    obtain ⟨e, rfl⟩ := Int.eq_ofNat_of_zero_le (Int.le_trans ha0 hae)
    simp only [Int.toNat_natCast] at hasc ⊢
    have hae' : a ≤ e := by omega
    have hen' : e ≤ n := by omega
    subst hlen
    refine ⟨rfl, fun Q hQ => ?_⟩
    have fin : ∀ ρ, Q .nx ρ (cw.set b (.cells (ints (sortSeg ks zs a e)))) := fun ρ => hQ .nx ρ (.inl rfl) rfl
    clear hQ
    have hctx : ∀ m, ctxOf (cw.set b (.cells (ints m))) o l = some ks := fun m => by rw [ctxOf_same (set_old hob) (set_old hlb)]; exact hks
    have w1 : IntKind.wrap .i64 ((a : Int) + 1) = ((a + 1 : Nat) : Int) := by rw [wrap_i64 (by omega) (by omega)]; rfl
    simp -implicitDefEqProofs only [f_slices_insertionSortCmpFunc_int, go_sem, w1]
    refine wpk_loop (fun m ρ cw' => ∃ i : Nat, a + 1 ≤ i ∧ (i ≤ e ∨ i = a + 1) ∧ m = e - i ∧ ρ = [(0, .ref b 0 zs.length 1), (1, .int .i64 a), (2, .int .i64 e), (3, .fn 29 [] [.ptr o 0, .ptr l 0]), (8, .int .i64 i)] ∧
      cw' = cw.set b (.cells (ints (sortSeg ks zs a (min i e))))) (e - (a + 1)) ⟨a + 1, by omega, .inr rfl, rfl, rfl, ?_⟩ ?_
    · have : sortSeg ks zs a (min (a + 1) e) = zs := by
        unfold sortSeg
        rw [srt_id, lay_seg (by omega)]
        by_cases hae2 : a < e
        · rw [Nat.min_eq_left (by omega), seg_succ (Nat.le_refl a) (by omega)]
          have : seg zs a a = [] := by simp [seg]
          rw [this]; simp [Srt]
        · have : seg zs a (min (a + 1) e) = [] := by
            rw [Nat.min_eq_right (by omega)]
            simp [seg]; omega
          rw [this]; simp [Srt]
      rw [this]
      exact (set_self hg).symm
    rintro m ρ cw' N ⟨i, hi1, hi2, rfl, rfl, rfl⟩ hN
    simp -implicitDefEqProofs only [go_sem]
    cases hlt : decide ((i : Int) < e)
    case false =>
      simp only [decide_eq_false_iff_not] at hlt
      simp -implicitDefEqProofs only [go_sem]
      rw [Nat.min_eq_right (by omega)]
      exact fin _
    simp only [decide_eq_true_eq] at hlt
    have hlt' : i < e := by omega
    rw [Nat.min_eq_left (by omega)]
    simp -implicitDefEqProofs only [go_sem]
    -- the one that is put where it belongs
    have hil : i < zs.length := by omega
    have hsl : (srt ks (seg zs a i)).length = i - a := by rw [srt_length, seg_length (by omega)]
    have hlay0 : sortSeg ks zs a i = (zs.take a ++ srt ks (seg zs a i)) ++ zs[i] :: zs.drop (i + 1) := by
      unfold sortSeg lay
      rw [List.drop_eq_getElem_cons hil]
    refine wpk_loop (fun m ρ cw' => ∃ L R : List Int, L ++ R = srt ks (seg zs a i) ∧ m = L.length ∧ (∀ r, R.head? = some r → leI ks zs[i] r = true) ∧
      ρ = [(0, .ref b 0 zs.length 1), (1, .int .i64 a), (2, .int .i64 e), (3, .fn 29 [] [.ptr o 0, .ptr l 0]), (8, .int .i64 i), (9, .int .i64 (a + L.length : Nat))] ∧
      cw' = cw.set b (.cells (ints ((zs.take a ++ L) ++ zs[i] :: (R ++ zs.drop (i + 1)))))) (srt ks (seg zs a i)).length ⟨srt ks (seg zs a i), [], by simp, rfl, by simp, ?_, ?_⟩ ?_
    · rw [hsl, show a + (i - a) = i by omega]
    · rw [hlay0]; rfl
    rintro m ρ cw' N2 ⟨L, R, hLR, rfl, hR, rfl, rfl⟩ hN2
    have hLl : L.length ≤ i - a := by rw [← hsl, ← hLR]; simp
    have hbl : (zs.take a ++ L).length = a + L.length := by simp; omega
    have hzl : zs.length ≤ 1000 := hn
    have htot : ((zs.take a ++ L) ++ zs[i] :: (R ++ zs.drop (i + 1))).length = zs.length := by
      have : L.length + R.length = i - a := by rw [← hsl, ← hLR]; simp
      simp; omega
    have hsrt : Srt ks (L ++ R) := by rw [hLR]; exact srt_sorted ks _
    have hend : ∀ ρ', (∀ a, L.getLast? = some a → leI ks a zs[i] = true) → nxt K Q [] ρ' (cw.set b (.cells (ints ((zs.take a ++ L) ++ zs[i] :: (R ++ zs.drop (i + 1)))))) → True := fun _ _ _ => trivial
    have hdone : (∀ a, L.getLast? = some a → leI ks a zs[i] = true) → (zs.take a ++ L) ++ zs[i] :: (R ++ zs.drop (i + 1)) = sortSeg ks zs a (i + 1) := by
      intro hl
      have h1 := srt_insert hsrt hl hR
      have h2 : L ++ zs[i] :: R = srt ks (seg zs a (i + 1)) := by
        refine srt_unique ?_ h1
        rw [seg_succ (by omega) hil]
        refine List.perm_middle.trans ?_
        rw [hLR]
        exact ((srt_perm ks _).cons _).trans (List.perm_append_singleton ..).symm
      unfold sortSeg lay
      rw [← h2]
      simp
    have hnext : (∀ a, L.getLast? = some a → leI ks a zs[i] = true) → N [(0, .ref b 0 zs.length 1), (1, .int .i64 a), (2, .int .i64 e), (3, .fn 29 [] [.ptr o 0, .ptr l 0]), (8, .int .i64 (i + 1 : Nat))] (cw.set b (.cells (ints ((zs.take a ++ L) ++ zs[i] :: (R ++ zs.drop (i + 1)))))) := by
      intro hl
      refine hN (e - (i + 1)) _ _ (by omega) ⟨i + 1, by omega, .inl (by omega), rfl, rfl, ?_⟩
      rw [hdone hl, Nat.min_eq_left (by omega)]
    have w2 : IntKind.wrap .i64 ((i : Int) + 1) = ((i + 1 : Nat) : Int) := by rw [wrap_i64 (by omega) (by omega)]; rfl
    rcases List.eq_nil_or_concat L with rfl | ⟨L', y, hL⟩
    · have hf : decide ((a : Int) > a) = false := by simp
      simp -implicitDefEqProofs only [go_sem, hf, w2]
      have h := hnext (by simp)
      rw [List.append_nil] at h
      exact h
    · simp only [List.concat_eq_append] at hL
      subst hL
      have hj : a + (L' ++ [y]).length = a + L'.length + 1 := by simp; omega
      rw [hj]
      have hf : decide (((a + L'.length + 1 : Nat) : Int) > a) = true := by simp; omega
      have hA : (zs.take a ++ (L' ++ [y])).length = a + L'.length + 1 := by simp; omega
      have hA' : (zs.take a ++ L').length = a + L'.length := by simp; omega
      have hyin : y ∈ seg zs a i := (srt_perm ks _).mem_iff.1 (by rw [← hLR]; simp)
      have hyzs : y ∈ zs := List.mem_of_mem_take (List.mem_of_mem_drop hyin)
      have hxzs : zs[i] ∈ zs := List.getElem_mem hil
      have hyx : y < zs[i] := by
        have h1 : asc (seg zs a (i + 1)) := by
          have : seg zs a (i + 1) = (seg zs a e).take (i + 1 - a) := by
            unfold seg
            rw [List.take_drop, List.take_take, Nat.min_eq_left (by omega)]
            congr 1
            congr 1
            omega
          unfold asc
          rw [this]
          exact List.Pairwise.take hasc
        unfold asc at h1
        rw [seg_succ (by omega) hil, List.pairwise_append] at h1
        exact h1.2.2 y hyin zs[i] (by simp)
      have a1 : (ints ((zs.take a ++ (L' ++ [y])) ++ zs[i] :: (R ++ zs.drop (i + 1))))[a + L'.length + 1]? = some (.int .i64 zs[i]) := by
        have := ints_mid (zs.take a ++ (L' ++ [y])) (R ++ zs.drop (i + 1)) zs[i]
        rwa [hA] at this
      have e2 : (zs.take a ++ (L' ++ [y])) ++ zs[i] :: (R ++ zs.drop (i + 1)) = (zs.take a ++ L') ++ y :: (zs[i] :: (R ++ zs.drop (i + 1))) := by simp
      have a2 : (ints ((zs.take a ++ (L' ++ [y])) ++ zs[i] :: (R ++ zs.drop (i + 1))))[a + L'.length]? = some (.int .i64 y) := by
        have := ints_mid (zs.take a ++ L') (zs[i] :: (R ++ zs.drop (i + 1))) y
        rwa [hA', ← e2] at this
      have hin1 : 0 ≤ ((a + L'.length + 1 : Nat) : Int) ∧ ((a + L'.length + 1 : Nat) : Int) < zs.length := by
        have : L'.length + 1 ≤ i - a := by simpa using hLl
        constructor <;> omega
      have : L'.length + 1 ≤ i - a := by simpa using hLl
      have w3 : IntKind.wrap .i64 (((a + L'.length + 1 : Nat) : Int) - 1) = ((a + L'.length : Nat) : Int) := by rw [wrap_i64 (by omega) (by omega)]; omega
      have hin2 : 0 ≤ ((a + L'.length : Nat) : Int) ∧ ((a + L'.length : Nat) : Int) < zs.length := by omega
      have hclo : ∀ m, cloF [.int .i64 zs[i], .int .i64 y, .ptr o 0, .ptr l 0] (cw.set b (.cells (ints m))) = some (.int .i64 (cmpI (keyAt ks zs[i]) (keyAt ks y)), cw.set b (.cells (ints m))) := by
        intro m
        simp only [cloF, hctx, Option.bind_some]
        rw [if_pos ⟨(hin _ hxzs).1, (hin _ hxzs).2, (hin _ hyzs).1, (hin _ hyzs).2⟩]
      simp -implicitDefEqProofs only [go_sem, hf, w3, hin1, hin2, a1, a2, wpa_eff h29, hclo, cmpI_lt]
      cases hcmp : ltI ks zs[i] y
      · simp -implicitDefEqProofs only [go_sem, w2]
        refine hnext fun a ha => ?_
        rw [List.getLast?_concat] at ha
        cases ha
        exact leI_of_not hcmp (by omega)
      · have hlenA : (ints ((zs.take a ++ (L' ++ [y])) ++ zs[i] :: (R ++ zs.drop (i + 1)))).length = zs.length := by rw [ints_length, htot]
        have p1 := ints_put (zs.take a ++ (L' ++ [y])) (R ++ zs.drop (i + 1)) zs[i] y
        rw [hA] at p1
        have e3 : (zs.take a ++ (L' ++ [y])) ++ y :: (R ++ zs.drop (i + 1)) = (zs.take a ++ L') ++ y :: (y :: (R ++ zs.drop (i + 1))) := by simp
        have p2 := ints_put (zs.take a ++ L') (y :: (R ++ zs.drop (i + 1))) y zs[i]
        rw [hA', ← e3] at p2
        have hl3 : (ints ((zs.take a ++ (L' ++ [y])) ++ y :: (R ++ zs.drop (i + 1)))).length = zs.length := by
          rw [ints_length, ← htot]; simp
        have b1 : a + L'.length + 1 + 1 ≤ zs.length := by omega
        have b2 : a + L'.length + 1 ≤ zs.length := by omega
        simp -implicitDefEqProofs only [go_sem, w3, hin1, hin2, a1, a2, hlenA, b1, b2, p1, hl3, p2, set_set]
        refine hN2 L'.length _ _ (by simp) ⟨L', y :: R, by rw [← hLR]; simp, rfl, ?_, rfl, ?_⟩
        · intro r hr
          cases hr
          exact leI_of_lt hcmp
        · simp
  · rename_i fx
    cases h
    refine ⟨rfl, fun Q hQ => ?_⟩
    have w1 : IntKind.wrap .i64 ((0 : Int) + 1) = 1 := by decide
    have hf : decide ((1 : Int) < 0) = false := by decide
    simp -implicitDefEqProofs only [f_slices_insertionSortCmpFunc_int, go_sem, w1]
    refine wpk_loop (fun m ρ cw' => ρ = [(0, .nils), (1, .int .i64 0), (2, .int .i64 0), (3, fx), (8, .int .i64 1)] ∧ cw' = cw) 0 ⟨rfl, rfl⟩ ?_
    rintro m ρ cw' N ⟨rfl, rfl⟩ hN
    simp -implicitDefEqProofs only [go_sem, hf]
    exact hQ .nx _ (.inl rfl) rfl
  · cases h

end Go.Cs

/- slices: swapping ranges, turning a row. -/
namespace Go.Cs
variable {K : Nat → Ct}

/-- Two ranges change places. -/
def swp (zs : List Int) (a c m : Nat) : List Int := zs.take a ++ (zs.drop c).take m ++ (zs.drop (a + m)).take (c - (a + m)) ++ (zs.drop a).take m ++ zs.drop (c + m)
theorem parts5 {zs : List Int} {a c m : Nat} (h1 : a + m ≤ c) (h2 : c + m ≤ zs.length) :
    ∃ A X M Y B, zs = A ++ X ++ M ++ Y ++ B ∧ A.length = a ∧ X.length = m ∧ Y.length = m ∧ (A ++ X ++ M).length = c := by
  refine ⟨zs.take a, (zs.drop a).take m, (zs.drop (a + m)).take (c - (a + m)), (zs.drop c).take m, zs.drop (c + m), ?_, by simp; omega, by simp; omega, by simp; omega, by simp; omega⟩
  have e1 : zs.drop c = (zs.drop c).take m ++ zs.drop (c + m) := by rw [← List.drop_drop, List.take_append_drop]
  have e2 : zs.drop (a + m) = (zs.drop (a + m)).take (c - (a + m)) ++ zs.drop c := by
    have := (List.take_append_drop (c - (a + m)) (zs.drop (a + m))).symm
    rwa [List.drop_drop, show a + m + (c - (a + m)) = c by omega] at this
  have e3 : zs.drop a = (zs.drop a).take m ++ zs.drop (a + m) := by rw [← List.drop_drop, List.take_append_drop]
  conv => lhs; rw [← List.take_append_drop a zs, e3, e2, e1]
  simp only [List.append_assoc]
theorem swp_parts {A X M Y B : List Int} {a c m : Nat} (ha : A.length = a) (hx : X.length = m) (hy : Y.length = m) (hc : (A ++ X ++ M).length = c) : swp (A ++ X ++ M ++ Y ++ B) a c m = A ++ Y ++ M ++ X ++ B := by
  unfold swp
  have f1 : (A ++ X ++ M ++ Y ++ B).take a = A := by simp only [List.append_assoc]; exact List.take_left' ha
  have f2 : (A ++ X ++ M ++ Y ++ B).drop c = Y ++ B := by rw [List.append_assoc]; exact List.drop_left' hc
  have f3 : (A ++ X ++ M ++ Y ++ B).drop (a + m) = M ++ (Y ++ B) := by simp only [List.append_assoc]; rw [← List.append_assoc A X]; exact List.drop_left' (by simp [ha, hx])
  have f4 : (A ++ X ++ M ++ Y ++ B).drop a = X ++ (M ++ (Y ++ B)) := by simp only [List.append_assoc]; exact List.drop_left' ha
  have f5 : (A ++ X ++ M ++ Y ++ B).drop (c + m) = B := List.drop_left' (by simp only [List.length_append] at hc ⊢; omega)
  rw [f1, f2, f3, f4, f5, List.take_left' hy, List.take_left' hx, List.take_left' (by simp only [List.length_append] at hc; omega)]

open Classical in
/-- slices.swapRangeCmpFunc. -/
noncomputable def swpF : List CV → CW → Option (CV × CW)
  | [.ref b 0 n 1, .int .i64 a, .int .i64 c, .int .i64 m, _], cw => (datOf cw b n).bind fun zs =>
    if 0 ≤ a ∧ 0 ≤ m ∧ a + m ≤ c ∧ c + m ≤ n ∧ n ≤ 1000 then some (.tup [], cw.set b (.cells (ints (swp zs a.toNat c.toNat m.toNat)))) else none
  | _, _ => none

set_option maxHeartbeats 1000000 in
theorem swp_runs : RunsW K f_slices_swapRangeCmpFunc_int swpF := by
  intro args cw v cw' h
  unfold swpF at h
  split at h
  · rename_i b n a0 c0 m0 fx
    simp only [Option.bind_eq_some_iff] at h
    obtain ⟨zs, hzs, h⟩ := h
    split at h
    case isFalse => cases h
    rename_i hc
    cases h
    obtain ⟨ha0, hm0, hac, hcn, hn⟩ := hc
    obtain ⟨hg, hlen⟩ := datOf_cases hzs
    obtain ⟨a, rfl⟩ := Int.eq_ofNat_of_zero_le ha0
    obtain ⟨m, rfl⟩ := Int.eq_ofNat_of_zero_le hm0
    obtain ⟨c, rfl⟩ := Int.eq_ofNat_of_zero_le (show (0 : Int) ≤ c0 by omega)
    simp only [Int.toNat_natCast]
    subst hlen
    obtain ⟨A, X, M, Y, B, rfl, hA, hX, hY, hAXM⟩ := parts5 (zs := zs) (a := a) (c := c) (m := m) (by omega) (by omega)
    rw [swp_parts hA hX hY hAXM]
    refine ⟨rfl, fun Q hQ => ?_⟩
    have fin : ∀ ρ, Q .nx ρ (cw.set b (.cells (ints (A ++ Y ++ M ++ X ++ B)))) := fun ρ => hQ .nx ρ (.inl rfl) rfl
    clear hQ
    generalize hN0 : (A ++ X ++ M ++ Y ++ B).length = n at *
    simp -implicitDefEqProofs only [f_slices_swapRangeCmpFunc_int, go_sem]
    refine wpk_loop (fun q ρ cw' => ∃ X1 X2 Y1 Y2, X = X1 ++ X2 ∧ Y = Y1 ++ Y2 ∧ X1.length = Y1.length ∧ q = X2.length ∧ ρ = [(0, .ref b 0 n 1), (1, .int .i64 a), (2, .int .i64 c), (3, .int .i64 m), (10, .int .i64 X1.length)] ∧
      cw' = cw.set b (.cells (ints (A ++ Y1 ++ X2 ++ M ++ X1 ++ Y2 ++ B)))) X.length ⟨[], X, [], Y, rfl, rfl, rfl, rfl, rfl, ?_⟩ ?_
    · simp only [List.append_nil]
      exact (set_self hg).symm
    rintro q ρ cw' N ⟨X1, X2, Y1, Y2, hX12, hY12, h12, rfl, rfl, rfl⟩ hN
    have hl1 : X1.length + X2.length = m := by rw [← hX, hX12]; simp
    have hl2 : Y1.length + Y2.length = m := by rw [← hY, hY12]; simp
    have hA3 : A.length + X.length + M.length = c := by simp at hAXM; omega
    have hT : A.length + X.length + M.length + Y.length + B.length = n := by rw [← hN0]; simp; omega
    cases hlt : decide ((X1.length : Int) < m)
    case false =>
      simp only [decide_eq_false_iff_not] at hlt
      have e1 : X2 = [] := List.length_eq_zero_iff.1 (by omega)
      have e2 : Y2 = [] := List.length_eq_zero_iff.1 (by omega)
      subst e1 e2
      simp only [List.append_nil] at hX12 hY12
      subst hX12 hY12
      simp -implicitDefEqProofs only [go_sem, hlt, decide_false]
      have := fin [(0, .ref b 0 n 1), (1, .int .i64 a), (2, .int .i64 c), (3, .int .i64 m), (10, .int .i64 X.length), (13, .bool false)]
      simpa only [List.append_nil] using this
    simp only [decide_eq_true_eq] at hlt
    obtain ⟨x, X2', rfl⟩ : ∃ x r, X2 = x :: r := by
      cases X2 with
      | nil => simp at hl1; omega
      | cons x r => exact ⟨x, r, rfl⟩
    obtain ⟨y, Y2', rfl⟩ : ∃ y r, Y2 = y :: r := by
      cases Y2 with
      | nil => simp at hl2; omega
      | cons y r => exact ⟨y, r, rfl⟩
    simp only [List.length_cons] at hl1 hl2
    have f1 : A ++ Y1 ++ (x :: X2') ++ M ++ X1 ++ (y :: Y2') ++ B = (A ++ Y1) ++ x :: (X2' ++ M ++ X1 ++ (y :: Y2') ++ B) := by simp
    have f2 : A ++ Y1 ++ (x :: X2') ++ M ++ X1 ++ (y :: Y2') ++ B = (A ++ Y1 ++ (x :: X2') ++ M ++ X1) ++ y :: (Y2' ++ B) := by simp
    have g1 : (A ++ Y1).length = a + X1.length := by simp; omega
    have g2 : (A ++ Y1 ++ (x :: X2') ++ M ++ X1).length = c + X1.length := by simp; omega
    have a1 := ints_mid (A ++ Y1) (X2' ++ M ++ X1 ++ (y :: Y2') ++ B) x
    rw [g1, ← f1] at a1
    have a2 := ints_mid (A ++ Y1 ++ (x :: X2') ++ M ++ X1) (Y2' ++ B) y
    rw [g2, ← f2] at a2
    have p1 := ints_put (A ++ Y1) (X2' ++ M ++ X1 ++ (y :: Y2') ++ B) x y
    rw [g1, ← f1] at p1
    have f3 : (A ++ Y1) ++ y :: (X2' ++ M ++ X1 ++ (y :: Y2') ++ B) = (A ++ Y1 ++ (y :: X2') ++ M ++ X1) ++ y :: (Y2' ++ B) := by simp
    have g3 : (A ++ Y1 ++ (y :: X2') ++ M ++ X1).length = c + X1.length := by simp; omega
    have p2 := ints_put (A ++ Y1 ++ (y :: X2') ++ M ++ X1) (Y2' ++ B) y x
    rw [g3, ← f3] at p2
    have l1 : (ints (A ++ Y1 ++ (x :: X2') ++ M ++ X1 ++ (y :: Y2') ++ B)).length = n := by rw [ints_length]; simp; rw [← hT, hX12, hY12]; simp; omega
    have l2 : (ints ((A ++ Y1) ++ y :: (X2' ++ M ++ X1 ++ (y :: Y2') ++ B))).length = n := by rw [ints_length]; simp; rw [← hT, hX12, hY12]; simp; omega
    have w1 : IntKind.wrap .i64 ((a : Int) + X1.length) = ((a + X1.length : Nat) : Int) := by rw [wrap_i64 (by omega) (by omega)]; omega
    have w2 : IntKind.wrap .i64 ((c : Int) + X1.length) = ((c + X1.length : Nat) : Int) := by rw [wrap_i64 (by omega) (by omega)]; omega
    have w3 : IntKind.wrap .i64 ((X1.length : Int) + 1) = ((X1.length + 1 : Nat) : Int) := by rw [wrap_i64 (by omega) (by omega)]; omega
    have i1 : 0 ≤ ((a + X1.length : Nat) : Int) ∧ ((a + X1.length : Nat) : Int) < n := by omega
    have i2 : 0 ≤ ((c + X1.length : Nat) : Int) ∧ ((c + X1.length : Nat) : Int) < n := by omega
    have b1 : a + X1.length + 1 ≤ n := by omega
    have b2 : c + X1.length + 1 ≤ n := by omega
    simp -implicitDefEqProofs only [go_sem, hlt, decide_true, w1, w2, w3, i1, i2, a1, a2, l1, b1, p1, l2, b2, p2, set_set]
    refine hN X2'.length _ _ (by simp) ⟨X1 ++ [x], X2', Y1 ++ [y], Y2', by simp [hX12], by simp [hY12], by simp [h12], rfl, by simp, ?_⟩
    simp
  · cases h

/-- Two neighbours change places. -/
def rot (zs : List Int) (a m e : Nat) : List Int := zs.take a ++ seg zs m e ++ seg zs a m ++ zs.drop e
theorem parts4 {zs : List Int} {a m e : Nat} (h1 : a ≤ m) (h2 : m ≤ e) (h3 : e ≤ zs.length) : ∃ A U V B, zs = A ++ U ++ V ++ B ∧ A.length = a ∧ U.length = m - a ∧ V.length = e - m ∧ U = seg zs a m ∧ V = seg zs m e ∧ A = zs.take a ∧ B = zs.drop e := by
  refine ⟨zs.take a, seg zs a m, seg zs m e, zs.drop e, ?_, by simp; omega, seg_length (by omega), seg_length h3, rfl, rfl, rfl, rfl⟩
  have e1 : zs.take a ++ seg zs a m = zs.take m := by
    unfold seg
    have : zs.take a = (zs.take m).take a := by rw [List.take_take, Nat.min_eq_left h1]
    rw [this, List.take_append_drop]
  have e2 : zs.take m ++ seg zs m e = zs.take e := by
    unfold seg
    have : zs.take m = (zs.take e).take m := by rw [List.take_take, Nat.min_eq_left h2]
    rw [this, List.take_append_drop]
  rw [e1, e2, List.take_append_drop]
open Classical in
/-- slices.rotateCmpFunc. -/
noncomputable def rotF : List CV → CW → Option (CV × CW)
  | [.ref b 0 n 1, .int .i64 a, .int .i64 m, .int .i64 e, _], cw => (datOf cw b n).bind fun zs =>
    if 0 ≤ a ∧ a < m ∧ m < e ∧ e ≤ n ∧ n ≤ 1000 then some (.tup [], cw.set b (.cells (ints (rot zs a.toNat m.toNat e.toNat)))) else none
  | _, _ => none

theorem swpF_parts {cw : CW} {b n : Nat} {A X M Y B : List Int} {a c m : Int} {fx : CV} (hg : cw.get b = some (.cells (ints (A ++ X ++ M ++ Y ++ B)))) (hl : (A ++ X ++ M ++ Y ++ B).length = n) (hn : n ≤ 1000)
    (ha : a = A.length) (hx : m = X.length) (hy : Y.length = X.length) (hc : c = (A ++ X ++ M).length) :
    swpF [.ref b 0 n 1, .int .i64 a, .int .i64 c, .int .i64 m, fx] cw = some (.tup [], cw.set b (.cells (ints (A ++ Y ++ M ++ X ++ B)))) := by
  subst ha hx hc
  simp only [swpF, datOf_of hg hl, Option.bind_some]
  rw [if_pos ⟨by omega, by omega, by simp; omega, by simp at hl ⊢; omega, hn⟩]
  simp only [Int.toNat_natCast]
  rw [swp_parts rfl rfl hy rfl]

set_option maxHeartbeats 1000000 in
theorem rot_runs (h77 : K 77 = effC swpF) : RunsW K f_slices_rotateCmpFunc_int rotF := by
  intro args cw v cw' h
  unfold rotF at h
  split at h
  · rename_i b n a0 m0 e0 fx
    simp only [Option.bind_eq_some_iff] at h
    obtain ⟨zs, hzs, h⟩ := h
    split at h
    case isFalse => cases h
    rename_i hc
    cases h
    obtain ⟨ha0, ham, hme, hen, hn⟩ := hc
    obtain ⟨hg, hlen⟩ := datOf_cases hzs
    obtain ⟨a, rfl⟩ := Int.eq_ofNat_of_zero_le ha0
    obtain ⟨m, rfl⟩ := Int.eq_ofNat_of_zero_le (show (0 : Int) ≤ m0 by omega)
    obtain ⟨e, rfl⟩ := Int.eq_ofNat_of_zero_le (show (0 : Int) ≤ e0 by omega)
    simp only [Int.toNat_natCast]
    subst hlen
    obtain ⟨A, U, V, B, hz, hA, hU, hV, hU2, hV2, hA2, hB2⟩ := parts4 (zs := zs) (a := a) (m := m) (e := e) (by omega) (by omega) (by omega)
    have hres : rot zs a m e = A ++ V ++ U ++ B := by unfold rot; rw [← hU2, ← hV2, ← hA2, ← hB2]
    rw [hres]
    clear hU2 hV2 hA2 hB2
    rw [hz] at hg
    refine ⟨rfl, fun Q hQ => ?_⟩
    have fin : ∀ ρ, Q .nx ρ (cw.set b (.cells (ints (A ++ V ++ U ++ B)))) := fun ρ => hQ .nx ρ (.inl rfl) rfl
    clear hQ
    have w1 : IntKind.wrap .i64 ((m : Int) - a) = ((m - a : Nat) : Int) := by rw [wrap_i64 (by omega) (by omega)]; omega
    have w2 : IntKind.wrap .i64 ((e : Int) - m) = ((e - m : Nat) : Int) := by rw [wrap_i64 (by omega) (by omega)]; omega
    simp -implicitDefEqProofs only [f_slices_rotateCmpFunc_int, go_sem, w1, w2]
    refine wpk_loop (fun q ρ cw' => ∃ (P U' V' S : List Int), q = U'.length + V'.length ∧ 0 < U'.length ∧ 0 < V'.length ∧ P.length + U'.length = m ∧ (P ++ U' ++ V' ++ S).length = zs.length ∧ P ++ V' ++ U' ++ S = A ++ V ++ U ++ B ∧
      ρ = [(0, .ref b 0 zs.length 1), (2, .int .i64 m), (4, fx), (10, .int .i64 U'.length), (11, .int .i64 V'.length)] ∧ cw' = cw.set b (.cells (ints (P ++ U' ++ V' ++ S)))) (U.length + V.length)
      ⟨A, U, V, B, rfl, by omega, by omega, by omega, by rw [hz], rfl, by rw [hU, hV], (set_self hg).symm⟩ ?_
    rintro q ρ cw' N ⟨P, U', V', S, rfl, hu, hv, hPU, htot, hfinal, rfl, rfl⟩ hN
    have htot' : P.length + U'.length + V'.length + S.length = zs.length := by rw [← htot]; simp; omega
    have hgt : ∀ x, (cw.set b (.cells (ints x))).get b = some (.cells (ints x)) := fun x => by simp only [go_sem]
    have hmu : IntKind.wrap .i64 ((m : Int) - U'.length) = P.length := by rw [wrap_i64 (by omega) (by omega)]; omega
    simp -implicitDefEqProofs only [go_sem, not_beq']
    cases heq : ((U'.length : Int) == V'.length)
    · have hne : U'.length ≠ V'.length := by intro he; rw [he] at heq; simp at heq
      simp -implicitDefEqProofs only [go_sem]
      cases hgt2 : decide ((U'.length : Int) > V'.length)
      · simp only [decide_eq_false_iff_not] at hgt2
        have hlt : U'.length < V'.length := by omega
        obtain ⟨V1, V2, hV12, hV1, hV2⟩ : ∃ V1 V2, V' = V1 ++ V2 ∧ V1.length = V'.length - U'.length ∧ V2.length = U'.length :=
          ⟨V'.take (V'.length - U'.length), V'.drop (V'.length - U'.length), (List.take_append_drop _ _).symm, by simp, by simp; omega⟩
        have w3 : IntKind.wrap .i64 ((m : Int) + V'.length) = m + V'.length := wrap_i64 (by omega) (by omega)
        have w4 : IntKind.wrap .i64 ((m : Int) + V'.length - U'.length) = m + V'.length - U'.length := wrap_i64 (by omega) (by omega)
        have w5 : IntKind.wrap .i64 ((V'.length : Int) - U'.length) = V1.length := by rw [wrap_i64 (by omega) (by omega)]; omega
        have e1 : P ++ U' ++ V' ++ S = P ++ U' ++ V1 ++ V2 ++ S := by rw [hV12]; simp
        have hs := swpF_parts (cw := cw.set b (.cells (ints (P ++ U' ++ V' ++ S)))) (b := b) (n := zs.length) (A := P) (X := U') (M := V1) (Y := V2) (B := S) (a := P.length) (c := m + V'.length - U'.length) (m := U'.length) (fx := fx)
          (by rw [hgt, e1]) (by rw [← e1, htot]) hn rfl rfl hV2 (by simp; omega)
        simp -implicitDefEqProofs only [go_sem, hmu, w3, w4, w5, wpa_eff h77, hs, set_set]
        refine hN (U'.length + V1.length) _ _ (by omega) ⟨P, V2, V1, U' ++ S, by omega, by omega, by omega, by omega, ?_, ?_, ?_, ?_⟩
        · rw [← htot, e1]; simp; omega
        · rw [← hfinal, hV12]; simp
        · rw [hV2]
        · simp
      · simp only [decide_eq_true_eq] at hgt2
        have hlt : V'.length < U'.length := by omega
        obtain ⟨U1, U2, hU12, hU1, hU2⟩ : ∃ U1 U2, U' = U1 ++ U2 ∧ U1.length = V'.length ∧ U2.length = U'.length - V'.length :=
          ⟨U'.take V'.length, U'.drop V'.length, (List.take_append_drop _ _).symm, by simp; omega, by simp⟩
        have w5 : IntKind.wrap .i64 ((U'.length : Int) - V'.length) = U2.length := by rw [wrap_i64 (by omega) (by omega)]; omega
        have e1 : P ++ U' ++ V' ++ S = P ++ U1 ++ U2 ++ V' ++ S := by rw [hU12]; simp
        have hs := swpF_parts (cw := cw.set b (.cells (ints (P ++ U' ++ V' ++ S)))) (b := b) (n := zs.length) (A := P) (X := U1) (M := U2) (Y := V') (B := S) (a := P.length) (c := m) (m := V'.length) (fx := fx)
          (by rw [hgt, e1]) (by rw [← e1, htot]) hn rfl (by rw [hU1]) hU1.symm (by simp; omega)
        simp -implicitDefEqProofs only [go_sem, hmu, w5, wpa_eff h77, hs, set_set]
        refine hN (U2.length + V'.length) _ _ (by omega) ⟨P ++ V', U2, U1, S, by omega, by omega, by omega, by simp; omega, ?_, ?_, ?_, ?_⟩
        · rw [← htot, e1]; simp; omega
        · rw [← hfinal, hU12]; simp
        · rw [hU1]
        · rfl
    · have he : U'.length = V'.length := by have := beq_iff_eq.1 heq; omega
      have e1 : P ++ U' ++ V' ++ S = P ++ U' ++ [] ++ V' ++ S := by simp
      have hs := swpF_parts (cw := cw.set b (.cells (ints (P ++ U' ++ V' ++ S)))) (b := b) (n := zs.length) (A := P) (X := U') (M := []) (Y := V') (B := S) (a := P.length) (c := m) (m := U'.length) (fx := fx)
        (by rw [hgt, e1]) (by rw [← e1, htot]) hn rfl rfl he.symm (by simp; omega)
      simp -implicitDefEqProofs only [go_sem, hmu, wpa_eff h77, hs, set_set]
      rw [← hfinal] at fin
      simpa only [List.append_nil] using fin _
  · cases h

end Go.Cs

/- slices: merging two sorted neighbours in place. -/
namespace Go.Cs
variable {K : Nat → Ct} {Q : RE → Env → CW → Prop}

abbrev zAt (zs : List Int) (h : Nat) : Int := zs.getD h 0
theorem ints_at {zs : List Int} {h : Nat} (hh : h < zs.length) : (ints zs)[h]? = some (.int .i64 (zAt zs h)) := by
  simp [ints, zAt, List.getD_eq_getElem?_getD, hh]
theorem zAt_mem {zs : List Int} {h : Nat} (hh : h < zs.length) : zAt zs h ∈ zs := by
  simp [zAt, List.getD_eq_getElem?_getD, hh]
theorem zAt_last {A X R : List Int} {v : Int} (h : X.getLast? = some v) : zAt (A ++ X ++ R) (A.length + X.length - 1) = v := by
  rcases List.eq_nil_or_concat X with rfl | ⟨X', y, rfl⟩
  · cases h
  · simp only [List.concat_eq_append, List.getLast?_concat, Option.some.injEq] at h ⊢
    subst h
    have e : A ++ (X' ++ [y]) ++ R = (A ++ X') ++ y :: R := by simp
    have e2 : A.length + (X' ++ [y]).length - 1 = (A ++ X').length := by simp
    rw [e, e2]
    simp [zAt, List.getD_eq_getElem?_getD]
theorem zAt_head {A X R : List Int} {v : Int} (h : X.head? = some v) : zAt (A ++ X ++ R) A.length = v := by
  cases X with
  | nil => cases h
  | cons y X =>
    cases h
    simp [zAt, List.getD_eq_getElem?_getD]

theorem half_u {n : Nat} (h : n < 4000) : IntKind.wrap .u64 (n : Int) = n := by
  simp only [IntKind.wrap, IntKind.signed, IntKind.bits]
  simp
  omega
theorem half_s {n : Nat} (_h : n < 4000) : Int.fdiv (n : Int) (2 ^ (min (Int.toNat 1) 64)) = ((n / 2 : Nat) : Int) := by
  have : (2 : Int) ^ (min (Int.toNat 1) 64) = 2 := by decide
  rw [this, Int.fdiv_eq_ediv_of_nonneg _ (by omega)]
  omega
theorem lt10 : ((1 : Int) < 0) = False := by decide
theorem half_i {n : Nat} (h : n < 4000) : IntKind.wrap .i64 ((n : Nat) : Int) = n := wrap_i64 (by omega) (by omega)
theorem wadd {i j : Nat} (h : i + j < 4000) : IntKind.wrap .i64 ((i : Int) + j) = ((i + j : Nat) : Int) := by rw [wrap_i64 (by omega) (by omega)]; omega
theorem wadd1 {i : Nat} (h : i < 4000) : IntKind.wrap .i64 ((i : Int) + 1) = ((i + 1 : Nat) : Int) := by rw [wrap_i64 (by omega) (by omega)]; omega
theorem wsub {i j : Nat} (h : j ≤ i) (h2 : i < 4000) : IntKind.wrap .i64 ((i : Int) - j) = ((i - j : Nat) : Int) := by rw [wrap_i64 (by omega) (by omega)]; omega
theorem wsub1 {i : Nat} (h : 1 ≤ i) (h2 : i < 4000) : IntKind.wrap .i64 ((i : Int) - 1) = ((i - 1 : Nat) : Int) := by rw [wrap_i64 (by omega) (by omega)]; omega

theorem clo_at {cw : CW} {b o l : Nat} {ks : List Key} {zs : List Int} {x y : Int} (hob : o ≠ b) (hlb : l ≠ b) (hks : ctxOf cw o l = some ks) (hx : 0 ≤ x ∧ x < ks.length) (hy : 0 ≤ y ∧ y < ks.length) :
    cloF [.int .i64 x, .int .i64 y, .ptr o 0, .ptr l 0] (cw.set b (.cells (ints zs))) = some (.int .i64 (cmpI (keyAt ks x) (keyAt ks y)), cw.set b (.cells (ints zs))) := by
  simp only [cloF, ctxOf_same (set_old hob) (set_old hlb), hks, Option.bind_some]
  rw [if_pos ⟨hx.1, hx.2, hy.1, hy.2⟩]

set_option maxHeartbeats 2000000 in
/-- One, and a sorted row behind it. -/
theorem sym1 (h29 : K 29 = effC cloF) {cw : CW} {b o l : Nat} {ks : List Key} {A Y B : List Int} {x : Int} {s : List Fr} (hob : o ≠ b) (hlb : l ≠ b) (hks : ctxOf cw o l = some ks) (hg : cw.get b = some (.cells (ints (A ++ x :: (Y ++ B)))))
    (hn : (A ++ x :: (Y ++ B)).length ≤ 1000) (hin : inR ks.length (A ++ x :: (Y ++ B))) (hY : Srt ks Y) (hxy : ∀ y ∈ Y, x < y)
    (fin : ∀ ρ, Q .ret ρ (cw.set b (.cells (ints (A ++ srt ks (x :: Y) ++ B))))) :
    wpk K Q f_slices_symMergeCmpFunc_int_q4 s [(0, .ref b 0 (A ++ x :: (Y ++ B)).length 1), (1, .int .i64 A.length), (4, .fn 29 [] [.ptr o 0, .ptr l 0]), (10, .int .i64 (A.length + 1 : Nat)), (11, .int .i64 (A.length + 1 + Y.length : Nat))] cw := by
  obtain ⟨zs, hzs⟩ : ∃ zs, A ++ x :: (Y ++ B) = zs := ⟨_, rfl⟩
  rw [hzs] at hg hn hin ⊢
  have hlen : A.length + 1 + Y.length + B.length = zs.length := by rw [← hzs]; simp; omega
  have hcw : cw = cw.set b (.cells (ints zs)) := (set_self hg).symm
  have hza : zAt zs A.length = x := by rw [← hzs]; simp [zAt, List.getD_eq_getElem?_getD]
  simp -implicitDefEqProofs only [f_slices_symMergeCmpFunc_int_q4, go_sem]
  refine wpk_loop (fun q ρ cw' => ∃ i j : Nat, A.length + 1 ≤ i ∧ i ≤ j ∧ j ≤ A.length + 1 + Y.length ∧ q = j - i ∧ (A.length + 1 < i → ltI ks (zAt zs (i - 1)) x = true) ∧ (j < A.length + 1 + Y.length → ltI ks (zAt zs j) x = false) ∧
    ρ = [(0, .ref b 0 zs.length 1), (1, .int .i64 A.length), (4, .fn 29 [] [.ptr o 0, .ptr l 0]), (10, .int .i64 i), (11, .int .i64 j)] ∧ cw' = cw.set b (.cells (ints zs))) Y.length
    ⟨A.length + 1, A.length + 1 + Y.length, by omega, by omega, by omega, by omega, fun h => absurd h (by omega), fun h => absurd h (by omega), rfl, hcw⟩ ?_
  rintro q ρ cw' N ⟨i, j, h1, h2, h3, rfl, h4, h5, rfl, rfl⟩ hN
  simp -implicitDefEqProofs only [f_slices_symMergeCmpFunc_int_q2, f_slices_symMergeCmpFunc_int_q1, go_sem]
  cases hlt : decide ((i : Int) < j)
  case true =>
    simp only [decide_eq_true_eq] at hlt
    obtain ⟨h, hh⟩ : ∃ h, (i + j) / 2 = h := ⟨_, rfl⟩
    have hi : i ≤ h := by omega
    have hj : h < j := by omega
    have i1 : 0 ≤ ((h : Nat) : Int) ∧ ((h : Nat) : Int) < zs.length := by omega
    have i2 : 0 ≤ ((A.length : Nat) : Int) ∧ ((A.length : Nat) : Int) < zs.length := by omega
    have a1 := ints_at (zs := zs) (h := h) (by omega)
    have a2 := ints_at (zs := zs) (h := A.length) (by omega)
    rw [hza] at a2
    have c1 := clo_at (zs := zs) (x := zAt zs h) (y := x) hob hlb hks (hin _ (zAt_mem (by omega))) (by rw [← hza]; exact hin _ (zAt_mem (by omega)))
    simp -implicitDefEqProofs only [go_sem, wadd (i := i) (j := j) (by omega), half_u (n := i + j) (by omega), lt10, half_s (n := i + j) (by omega), hh, half_i (n := h) (by omega), i1, i2, a1, a2, wpa_eff h29, c1, cmpI_lt]
    cases hc : ltI ks (zAt zs h) x
    · simp -implicitDefEqProofs only [go_sem]
      exact hN (h - i) _ _ (by omega) ⟨i, h, h1, hi, by omega, rfl, h4, fun _ => hc, rfl, rfl⟩
    · simp -implicitDefEqProofs only [go_sem, wadd1 (i := h) (by omega)]
      exact hN (j - (h + 1)) _ _ (by omega) ⟨h + 1, j, by omega, by omega, h3, rfl, fun _ => by simpa using hc, h5, rfl, rfl⟩
  simp only [decide_eq_false_iff_not] at hlt
  have hij : i = j := by omega
  subst hij
  clear hN h2
  obtain ⟨Y1, Y2, hY12, hY1⟩ : ∃ Y1 Y2, Y = Y1 ++ Y2 ∧ A.length + 1 + Y1.length = i := ⟨Y.take (i - (A.length + 1)), Y.drop (i - (A.length + 1)), (List.take_append_drop _ _).symm, by simp; omega⟩
  have hsorted : A ++ Y1 ++ x :: (Y2 ++ B) = A ++ srt ks (x :: Y) ++ B := by
    have e1 : zs = (A ++ [x]) ++ Y1 ++ (Y2 ++ B) := by rw [← hzs, hY12]; simp
    have e2 : zs = (A ++ [x] ++ Y1) ++ Y2 ++ B := by rw [← hzs, hY12]; simp
    have hY' := hY
    rw [hY12] at hY'
    have := srt_insert (x := x) hY' (fun v hv => by
      have h7 := zAt_last (A := A ++ [x]) (R := Y2 ++ B) hv
      rw [← e1] at h7
      have hpos : 0 < Y1.length := by
        cases Y1 with
        | nil => cases hv
        | cons _ _ => simp
      have h8 := h4 (by omega)
      have e3 : (A ++ [x]).length + Y1.length - 1 = i - 1 := by simp; omega
      rw [e3] at h7
      rw [h7] at h8
      exact leI_of_lt h8) (fun v hv => by
      have h7 := zAt_head (A := A ++ [x] ++ Y1) (R := B) hv
      rw [← e2] at h7
      have hpos : 0 < Y2.length := by
        cases Y2 with
        | nil => cases hv
        | cons _ _ => simp
      have hYl : Y1.length + Y2.length = Y.length := by rw [hY12]; simp
      have h8 := h5 (by omega)
      have e3 : (A ++ [x] ++ Y1).length = i := by simp; omega
      rw [e3] at h7
      rw [h7] at h8
      have hvY : v ∈ Y := by rw [hY12]; exact List.mem_append_right _ (List.mem_of_mem_head? hv)
      exact leI_of_not h8 (by have := hxy v hvY; omega))
    have h9 : Y1 ++ x :: Y2 = srt ks (x :: Y) := srt_unique (by rw [hY12]; exact List.perm_middle) this
    rw [← h9]; simp
  rw [← hsorted] at fin
  simp -implicitDefEqProofs only [go_sem, hlt, decide_false]
  have hYl : Y1.length + Y2.length = Y.length := by rw [hY12]; simp
  have wi : IntKind.wrap .i64 ((i : Int) - 1) = ((i - 1 : Nat) : Int) := wsub1 (by omega) (by omega)
  refine wpk_loop (fun q ρ cw' => ∃ Ya Yb : List Int, Y1 = Ya ++ Yb ∧ q = Yb.length ∧ ρ = [(0, .ref b 0 zs.length 1), (10, .int .i64 i), (13, .int .i64 (A.length + Ya.length : Nat))] ∧
    cw' = cw.set b (.cells (ints (A ++ Ya ++ x :: (Yb ++ Y2 ++ B))))) Y1.length ⟨[], Y1, rfl, rfl, rfl, by rw [← hzs, hY12]; simp⟩ ?_
  rintro q ρ cw' N ⟨Ya, Yb, hYab, rfl, rfl, rfl⟩ hN
  have hYal : Ya.length + Yb.length = Y1.length := by rw [hYab]; simp
  simp -implicitDefEqProofs only [f_slices_symMergeCmpFunc_int_q3, go_sem, wi]
  cases Yb with
  | nil =>
    have hf : decide (((A.length + Ya.length : Nat) : Int) < ((i - 1 : Nat) : Int)) = false := by simp at hYal; simp; omega
    simp -implicitDefEqProofs only [go_sem, hf]
    simp only [List.append_nil] at hYab
    subst hYab
    simpa only [List.nil_append] using fin _
  | cons y Yb =>
    simp only [List.length_cons] at hYal
    have hf : decide (((A.length + Ya.length : Nat) : Int) < ((i - 1 : Nat) : Int)) = true := by simp; omega
    obtain ⟨k, hk⟩ : ∃ k, A.length + Ya.length = k := ⟨_, rfl⟩
    have f1 : A ++ Ya ++ x :: (y :: (Yb ++ Y2 ++ B)) = (A ++ Ya ++ [x]) ++ y :: (Yb ++ Y2 ++ B) := by simp
    have g0 : (A ++ Ya).length = k := by simp; omega
    have g1 : (A ++ Ya ++ [x]).length = k + 1 := by simp; omega
    have a1 := ints_mid (A ++ Ya) (y :: (Yb ++ Y2 ++ B)) x
    rw [g0] at a1
    have a2 := ints_mid (A ++ Ya ++ [x]) (Yb ++ Y2 ++ B) y
    rw [g1, ← f1] at a2
    have p1 := ints_put (A ++ Ya) (y :: (Yb ++ Y2 ++ B)) x y
    rw [g0] at p1
    have f2 : (A ++ Ya) ++ y :: (y :: (Yb ++ Y2 ++ B)) = (A ++ Ya ++ [y]) ++ y :: (Yb ++ Y2 ++ B) := by simp
    have g2 : (A ++ Ya ++ [y]).length = k + 1 := by simp; omega
    have p2 := ints_put (A ++ Ya ++ [y]) (Yb ++ Y2 ++ B) y x
    rw [g2, ← f2] at p2
    have l1 : (ints (A ++ Ya ++ x :: (y :: (Yb ++ Y2 ++ B)))).length = zs.length := by rw [ints_length]; simp; omega
    have l2 : (ints (A ++ Ya ++ y :: (y :: (Yb ++ Y2 ++ B)))).length = zs.length := by rw [ints_length]; simp; omega
    have b1 : k + 1 ≤ zs.length := by omega
    have b2 : k + 1 + 1 ≤ zs.length := by omega
    have i1 : 0 ≤ ((k : Nat) : Int) ∧ ((k : Nat) : Int) < zs.length := by omega
    have i2 : 0 ≤ ((k + 1 : Nat) : Int) ∧ ((k + 1 : Nat) : Int) < zs.length := by omega
    rw [hk] at hf ⊢
    simp -implicitDefEqProofs only [go_sem, hf, wadd1 (i := k) (by omega), i1, i2, a1, a2, l1, b1, p1, l2, b2, p2, set_set]
    refine hN Yb.length _ _ (by simp) ⟨Ya ++ [y], Yb, by rw [hYab]; simp, rfl, by rw [show A.length + (Ya ++ [y]).length = k + 1 by simp; omega], ?_⟩
    simp

set_option maxHeartbeats 2000000 in
/-- A sorted row, and one behind it. -/
theorem sym2 (h29 : K 29 = effC cloF) {cw : CW} {b o l : Nat} {ks : List Key} {A X B : List Int} {x : Int} {s : List Fr} (hob : o ≠ b) (hlb : l ≠ b) (hks : ctxOf cw o l = some ks) (hg : cw.get b = some (.cells (ints (A ++ X ++ x :: B))))
    (hn : (A ++ X ++ x :: B).length ≤ 1000) (hin : inR ks.length (A ++ X ++ x :: B)) (hX : Srt ks X) (hxy : ∀ y ∈ X, y < x)
    (fin : ∀ ρ, Q .ret ρ (cw.set b (.cells (ints (A ++ srt ks (X ++ [x]) ++ B))))) :
    wpk K Q f_slices_symMergeCmpFunc_int_q8 s [(0, .ref b 0 (A ++ X ++ x :: B).length 1), (2, .int .i64 (A.length + X.length : Nat)), (4, .fn 29 [] [.ptr o 0, .ptr l 0]), (14, .int .i64 A.length)] cw := by
  obtain ⟨zs, hzs⟩ : ∃ zs, A ++ X ++ x :: B = zs := ⟨_, rfl⟩
  rw [hzs] at hg hn hin ⊢
  have hlen : A.length + X.length + 1 + B.length = zs.length := by rw [← hzs]; simp; omega
  have hcw : cw = cw.set b (.cells (ints zs)) := (set_self hg).symm
  obtain ⟨m, hm⟩ : ∃ m, A.length + X.length = m := ⟨_, rfl⟩
  rw [hm]
  have hzm : zAt zs m = x := by
    rw [← hzs, ← hm]
    have : A.length + X.length = (A ++ X).length := by simp
    rw [this]
    simp [zAt, List.getD_eq_getElem?_getD]
  simp -implicitDefEqProofs only [f_slices_symMergeCmpFunc_int_q8, go_sem]
  refine wpk_loop (fun q ρ cw' => ∃ i j : Nat, A.length ≤ i ∧ i ≤ j ∧ j ≤ m ∧ q = j - i ∧ (A.length < i → ltI ks x (zAt zs (i - 1)) = false) ∧ (j < m → ltI ks x (zAt zs j) = true) ∧
    ρ = [(0, .ref b 0 zs.length 1), (2, .int .i64 m), (4, .fn 29 [] [.ptr o 0, .ptr l 0]), (14, .int .i64 i), (15, .int .i64 j)] ∧ cw' = cw.set b (.cells (ints zs))) X.length
    ⟨A.length, m, by omega, by omega, by omega, by omega, fun h => absurd h (by omega), fun h => absurd h (by omega), rfl, hcw⟩ ?_
  rintro q ρ cw' N ⟨i, j, h1, h2, h3, rfl, h4, h5, rfl, rfl⟩ hN
  simp -implicitDefEqProofs only [f_slices_symMergeCmpFunc_int_q6, f_slices_symMergeCmpFunc_int_q5, go_sem]
  cases hlt : decide ((i : Int) < j)
  case true =>
    simp only [decide_eq_true_eq] at hlt
    obtain ⟨h, hh⟩ : ∃ h, (i + j) / 2 = h := ⟨_, rfl⟩
    have hi : i ≤ h := by omega
    have hj : h < j := by omega
    have i1 : 0 ≤ ((h : Nat) : Int) ∧ ((h : Nat) : Int) < zs.length := by omega
    have i2 : 0 ≤ ((m : Nat) : Int) ∧ ((m : Nat) : Int) < zs.length := by omega
    have a1 := ints_at (zs := zs) (h := h) (by omega)
    have a2 := ints_at (zs := zs) (h := m) (by omega)
    rw [hzm] at a2
    have c1 := clo_at (zs := zs) (x := x) (y := zAt zs h) hob hlb hks (by rw [← hzm]; exact hin _ (zAt_mem (by omega))) (hin _ (zAt_mem (by omega)))
    simp -implicitDefEqProofs only [go_sem, wadd (i := i) (j := j) (by omega), half_u (n := i + j) (by omega), lt10, half_s (n := i + j) (by omega), hh, half_i (n := h) (by omega), i1, i2, a1, a2, wpa_eff h29, c1, cmpI_lt]
    cases hc : ltI ks x (zAt zs h)
    · simp -implicitDefEqProofs only [go_sem, wadd1 (i := h) (by omega)]
      exact hN (j - (h + 1)) _ _ (by omega) ⟨h + 1, j, by omega, by omega, h3, rfl, fun _ => by simpa using hc, h5, rfl, rfl⟩
    · simp -implicitDefEqProofs only [go_sem]
      exact hN (h - i) _ _ (by omega) ⟨i, h, h1, hi, by omega, rfl, h4, fun _ => hc, rfl, rfl⟩
  simp only [decide_eq_false_iff_not] at hlt
  have hij : i = j := by omega
  subst hij
  clear hN h2
  obtain ⟨X1, X2, hX12, hX1⟩ : ∃ X1 X2, X = X1 ++ X2 ∧ A.length + X1.length = i := ⟨X.take (i - A.length), X.drop (i - A.length), (List.take_append_drop _ _).symm, by simp; omega⟩
  have hXl : X1.length + X2.length = X.length := by rw [hX12]; simp
  have hsorted : A ++ X1 ++ x :: (X2 ++ B) = A ++ srt ks (X ++ [x]) ++ B := by
    have e1 : zs = A ++ X1 ++ (X2 ++ x :: B) := by rw [← hzs, hX12]; simp
    have e2 : zs = (A ++ X1) ++ X2 ++ (x :: B) := by rw [← hzs, hX12]; simp
    have hX' := hX
    rw [hX12] at hX'
    have := srt_insert (x := x) hX' (fun v hv => by
      have h7 := zAt_last (A := A) (R := X2 ++ x :: B) hv
      rw [← e1] at h7
      have hpos : 0 < X1.length := by
        cases X1 with
        | nil => cases hv
        | cons _ _ => simp
      have h8 := h4 (by omega)
      rw [hX1] at h7
      rw [h7] at h8
      have hvX : v ∈ X := by rw [hX12]; exact List.mem_append_left _ (List.mem_of_getLast? hv)
      exact leI_of_not h8 (by have := hxy v hvX; omega)) (fun v hv => by
      have h7 := zAt_head (A := A ++ X1) (R := x :: B) hv
      rw [← e2] at h7
      have hpos : 0 < X2.length := by
        cases X2 with
        | nil => cases hv
        | cons _ _ => simp
      have h8 := h5 (by omega)
      have e3 : (A ++ X1).length = i := by simp; omega
      rw [e3] at h7
      rw [h7] at h8
      exact leI_of_lt h8)
    have h9 : X1 ++ x :: X2 = srt ks (X ++ [x]) := srt_unique (by rw [hX12]; exact List.perm_middle.trans (List.perm_append_singleton ..).symm) this
    rw [← h9]; simp
  rw [← hsorted] at fin
  simp -implicitDefEqProofs only [go_sem, hlt, decide_false]
  refine wpk_loop (fun q ρ cw' => ∃ Xa Xb : List Int, X2 = Xa ++ Xb ∧ q = Xa.length ∧ ρ = [(0, .ref b 0 zs.length 1), (14, .int .i64 i), (17, .int .i64 (i + Xa.length : Nat))] ∧
    cw' = cw.set b (.cells (ints (A ++ X1 ++ Xa ++ x :: (Xb ++ B))))) X2.length ⟨X2, [], by simp, rfl, by rw [show i + X2.length = m by omega], by rw [← hzs, hX12]; simp⟩ ?_
  rintro q ρ cw' N ⟨Xa, Xb, hXab, rfl, rfl, rfl⟩ hN
  have hXal : Xa.length + Xb.length = X2.length := by rw [hXab]; simp
  simp -implicitDefEqProofs only [f_slices_symMergeCmpFunc_int_q7, go_sem]
  rcases List.eq_nil_or_concat Xa with rfl | ⟨Xa', y, hXa'⟩
  · have hf : decide (((i + ([] : List Int).length : Nat) : Int) > (i : Int)) = false := by simp
    have hf' : decide ((i : Int) > (i : Int)) = false := by simp
    simp -implicitDefEqProofs only [go_sem, hf, hf']
    simp only [List.nil_append] at hXab
    subst hXab
    simpa only [List.append_nil] using fin _
  · simp only [List.concat_eq_append] at hXa'
    subst hXa'
    simp only [List.length_append, List.length_cons, List.length_nil, Nat.zero_add] at hXal
    obtain ⟨k, hk⟩ : ∃ k, i + Xa'.length = k := ⟨_, rfl⟩
    have hk1 : i + (Xa' ++ [y]).length = k + 1 := by simp; omega
    rw [hk1]
    have hf : decide (((k + 1 : Nat) : Int) > (i : Int)) = true := by simp; omega
    have f1 : A ++ X1 ++ (Xa' ++ [y]) ++ x :: (Xb ++ B) = (A ++ X1 ++ Xa') ++ y :: (x :: (Xb ++ B)) := by simp
    have g0 : (A ++ X1 ++ (Xa' ++ [y])).length = k + 1 := by simp; omega
    have g1 : (A ++ X1 ++ Xa').length = k := by simp; omega
    have a1 := ints_mid (A ++ X1 ++ (Xa' ++ [y])) (Xb ++ B) x
    rw [g0] at a1
    have a2 := ints_mid (A ++ X1 ++ Xa') (x :: (Xb ++ B)) y
    rw [g1, ← f1] at a2
    have p1 := ints_put (A ++ X1 ++ (Xa' ++ [y])) (Xb ++ B) x y
    rw [g0] at p1
    have f2 : (A ++ X1 ++ (Xa' ++ [y])) ++ y :: (Xb ++ B) = (A ++ X1 ++ Xa') ++ y :: (y :: (Xb ++ B)) := by simp
    have p2 := ints_put (A ++ X1 ++ Xa') (y :: (Xb ++ B)) y x
    rw [g1, ← f2] at p2
    have l1 : (ints (A ++ X1 ++ (Xa' ++ [y]) ++ x :: (Xb ++ B))).length = zs.length := by rw [ints_length]; simp; omega
    have l2 : (ints (A ++ X1 ++ (Xa' ++ [y]) ++ y :: (Xb ++ B))).length = zs.length := by rw [ints_length]; simp; omega
    have b1 : k + 1 ≤ zs.length := by omega
    have b2 : k + 1 + 1 ≤ zs.length := by omega
    have i1 : 0 ≤ ((k : Nat) : Int) ∧ ((k : Nat) : Int) < zs.length := by omega
    have i2 : 0 ≤ ((k + 1 : Nat) : Int) ∧ ((k + 1 : Nat) : Int) < zs.length := by omega
    have w1 : IntKind.wrap .i64 (((k + 1 : Nat) : Int) - 1) = ((k : Nat) : Int) := by rw [wsub1 (by omega) (by omega)]; rfl
    simp -implicitDefEqProofs only [go_sem, hf, w1, i1, i2, a1, a2, l1, b1, p1, l2, b2, p2, set_set]
    refine hN Xa'.length _ _ (by simp) ⟨Xa', y :: Xb, by rw [hXab]; simp, rfl, by rw [hk], ?_⟩
    simp

end Go.Cs

/- slices: merging two sorted neighbours in place: the great case, and the whole. -/
namespace Go.Cs
variable {K : Nat → Ct} {Q : RE → Env → CW → Prop}

theorem seg_parts {A X R : List Int} {a m : Nat} (ha : A.length = a) (hm : a + X.length = m) : seg (A ++ X ++ R) a m = X := by
  unfold seg
  rw [List.take_left' (by simp; omega), List.drop_left' ha]
theorem sortSeg_parts {ks : List Key} {A X B : List Int} {a e : Nat} (ha : A.length = a) (he : a + X.length = e) : sortSeg ks (A ++ X ++ B) a e = A ++ srt ks X ++ B := by
  unfold sortSeg lay
  rw [seg_parts ha he, List.drop_left' (by simp; omega), List.append_assoc A X B, List.take_left' ha]
theorem rot_parts {A U V B : List Int} {a m e : Nat} (ha : A.length = a) (hm : a + U.length = m) (he : m + V.length = e) : rot (A ++ U ++ V ++ B) a m e = A ++ V ++ U ++ B := by
  unfold rot
  have e1 : A ++ U ++ V ++ B = A ++ U ++ (V ++ B) := by simp
  rw [seg_parts (A := A ++ U) (X := V) (R := B) (by simp; omega) he]
  have e2 : (A ++ U ++ V ++ B).take a = A := by simp only [List.append_assoc]; exact List.take_left' ha
  have e3 : seg (A ++ U ++ V ++ B) a m = U := by rw [e1]; exact seg_parts ha hm
  rw [e2, e3, List.drop_left' (by simp; omega)]
theorem cross_le {ks : List Key} {L R : List Int} (hL : Srt ks L) (hR : Srt ks R) (h : ∀ x y, L.getLast? = some x → R.head? = some y → leI ks x y = true) : ∀ p ∈ L, ∀ q ∈ R, leI ks p q = true := by
  intro p hp q hq
  cases R with
  | nil => cases hq
  | cons y R =>
    have h1 := all_le_last (x := y) hL (fun a ha => h a y ha rfl) p hp
    rw [Srt, List.pairwise_cons] at hR
    rcases List.mem_cons.1 hq with rfl | hq
    · exact h1
    · exact leI_trans ks _ _ _ h1 (hR.1 q hq)

open Classical in
/-- slices.symMergeCmpFunc, over at most d. -/
noncomputable def symF (d : Nat) : List CV → CW → Option (CV × CW)
  | [.ref b 0 n 1, .int .i64 a, .int .i64 m, .int .i64 e, .fn 29 [] [.ptr o 0, .ptr l 0]], cw => (datOf cw b n).bind fun zs => (ctxOf cw o l).bind fun ks =>
    if o ≠ b ∧ l ≠ b ∧ 0 ≤ a ∧ a < m ∧ m < e ∧ e ≤ n ∧ n ≤ 1000 ∧ e - a ≤ d ∧ inR ks.length zs ∧ Srt ks (seg zs a.toNat m.toNat) ∧ Srt ks (seg zs m.toNat e.toNat) ∧ (∀ x ∈ seg zs a.toNat m.toNat, ∀ y ∈ seg zs m.toNat e.toNat, x < y)
    then some (.tup [], cw.set b (.cells (ints (sortSeg ks zs a.toNat e.toNat)))) else none
  | _, _ => none

theorem symF_parts {d : Nat} {cw : CW} {b o l n : Nat} {ks : List Key} {A X Y B : List Int} {a m e : Nat} (hob : o ≠ b) (hlb : l ≠ b) (hks : ctxOf cw o l = some ks) (hg : cw.get b = some (.cells (ints (A ++ X ++ Y ++ B)))) (hl : (A ++ X ++ Y ++ B).length = n) (hn : n ≤ 1000)
    (ha : A.length = a) (hm : a + X.length = m) (he : m + Y.length = e) (hX0 : 0 < X.length) (hY0 : 0 < Y.length) (hd : e - a ≤ d) (hin : inR ks.length (A ++ X ++ Y ++ B)) (hX : Srt ks X) (hY : Srt ks Y) (hxy : ∀ x ∈ X, ∀ y ∈ Y, x < y) :
    symF d [.ref b 0 n 1, .int .i64 a, .int .i64 m, .int .i64 e, .fn 29 [] [.ptr o 0, .ptr l 0]] cw = some (.tup [], cw.set b (.cells (ints (A ++ srt ks (X ++ Y) ++ B)))) := by
  have e1 : A ++ X ++ Y ++ B = A ++ X ++ (Y ++ B) := by simp
  have e2 : A ++ X ++ Y ++ B = A ++ (X ++ Y) ++ B := by simp
  have s1 : seg (A ++ X ++ Y ++ B) a m = X := by rw [e1]; exact seg_parts ha hm
  have s2 : seg (A ++ X ++ Y ++ B) m e = Y := seg_parts (A := A ++ X) (by simp; omega) he
  have s3 : sortSeg ks (A ++ X ++ Y ++ B) a e = A ++ srt ks (X ++ Y) ++ B := by rw [e2]; exact sortSeg_parts ha (by simp; omega)
  simp only [List.length_append] at hl
  simp only [symF, datOf_of hg (show (A ++ X ++ Y ++ B).length = n by simpa only [List.length_append] using hl), hks, Option.bind_some, Int.toNat_natCast, s1, s2, s3]
  rw [if_pos ⟨hob, hlb, by omega, by omega, by omega, by omega, hn, by omega, hin, by rw [s1]; exact hX, by rw [s2]; exact hY, by rw [s1, s2]; exact hxy⟩]

/-- What is behind the turning: both halves. -/
theorem sym_halves {d : Nat} (h55 : K 55 = effC (symF d)) {cw : CW} {b o l n : Nat} {ks : List Key} {A X1 Y1 X2 Y2 B : List Int} {a s mid en e : Nat} {ρ : Env} (hob : o ≠ b) (hlb : l ≠ b) (hks : ctxOf cw o l = some ks)
    (hl : (A ++ X1 ++ Y1 ++ X2 ++ Y2 ++ B).length = n) (hn : n ≤ 1000) (ha : A.length = a) (hs : a + X1.length = s) (hmid : s + Y1.length = mid) (hen : mid + X2.length = en) (he : en + Y2.length = e) (hd : e - a ≤ d + 1) (hmid1 : a < mid) (hmid2 : mid < e)
    (hin : inR ks.length (A ++ X1 ++ Y1 ++ X2 ++ Y2 ++ B)) (hX1 : Srt ks X1) (hY1 : Srt ks Y1) (hX2 : Srt ks X2) (hY2 : Srt ks Y2) (hxy1 : ∀ x ∈ X1, ∀ y ∈ Y1, x < y) (hxy2 : ∀ x ∈ X2, ∀ y ∈ Y2, x < y)
    (hcross : ∀ p ∈ X1 ++ Y1, ∀ q ∈ X2 ++ Y2, leI ks p q = true)
    (r0 : Env.get ρ 0 = some (.ref b 0 n 1)) (r1 : Env.get ρ 1 = some (.int .i64 a)) (r3 : Env.get ρ 3 = some (.int .i64 e)) (r4 : Env.get ρ 4 = some (.fn 29 [] [.ptr o 0, .ptr l 0])) (r18 : Env.get ρ 18 = some (.int .i64 mid))
    (r20 : Env.get ρ 20 = some (.int .i64 s)) (r24 : Env.get ρ 24 = some (.int .i64 en))
    (fin : ∀ ρ', Q .nx ρ' (cw.set b (.cells (ints (A ++ srt ks (X1 ++ Y1 ++ (X2 ++ Y2)) ++ B))))) :
    wpk K Q f_slices_symMergeCmpFunc_int_q13 [] ρ (cw.set b (.cells (ints (A ++ X1 ++ Y1 ++ X2 ++ Y2 ++ B)))) := by
  rw [← srt_append hcross] at fin
  have hctx : ∀ m, ctxOf (cw.set b (.cells (ints m))) o l = some ks := fun m => by rw [ctxOf_same (set_old hob) (set_old hlb)]; exact hks
  have hgt : ∀ x, (cw.set b (.cells (ints x))).get b = some (.cells (ints x)) := fun x => by simp only [go_sem]
  have hln : A.length + X1.length + Y1.length + X2.length + Y2.length + B.length = n := by rw [← hl]; simp; omega
  -- the second half
  have second : ∀ ρ : Env, Env.get ρ 0 = some (.ref b 0 n 1) → Env.get ρ 3 = some (.int .i64 e) → Env.get ρ 4 = some (.fn 29 [] [.ptr o 0, .ptr l 0]) → Env.get ρ 18 = some (.int .i64 mid) → Env.get ρ 24 = some (.int .i64 en) →
      wpk K Q f_slices_symMergeCmpFunc_int_q12 [] ρ (cw.set b (.cells (ints (A ++ srt ks (X1 ++ Y1) ++ X2 ++ Y2 ++ B)))) := by
    intro ρ r0 r3 r4 r18 r24
    have hAl : (A ++ srt ks (X1 ++ Y1)).length = mid := by simp [srt_length]; omega
    have same : ∀ ρ', (X2 = [] ∨ Y2 = []) → Q .nx ρ' (cw.set b (.cells (ints (A ++ srt ks (X1 ++ Y1) ++ X2 ++ Y2 ++ B)))) := by
      intro ρ' h
      have : srt ks (X2 ++ Y2) = X2 ++ Y2 := by
        rcases h with rfl | rfl
        · exact srt_id (by simpa using hY2)
        · exact srt_id (by simpa using hX2)
      have h2 := fin ρ'
      rw [this] at h2
      simpa only [List.append_assoc] using h2
    have hsf := symF_parts (d := d) (cw := cw.set b (.cells (ints (A ++ srt ks (X1 ++ Y1) ++ X2 ++ Y2 ++ B)))) (b := b) (o := o) (l := l) (n := n) (ks := ks) (A := A ++ srt ks (X1 ++ Y1)) (X := X2) (Y := Y2) (B := B) (a := mid) (m := en) (e := e)
      hob hlb (hctx _) (hgt _) (by simp [srt_length]; omega) hn hAl hen he
    have hin2 : inR ks.length (A ++ srt ks (X1 ++ Y1) ++ X2 ++ Y2 ++ B) := by
      intro z hz
      refine hin z ?_
      simp only [List.mem_append, (srt_perm ks _).mem_iff] at hz ⊢
      rcases hz with (((hz | hz | hz) | hz) | hz) | hz <;> simp [hz]
    simp -implicitDefEqProofs only [f_slices_symMergeCmpFunc_int_q12, go_sem, r0, r3, r4, r18, r24]
    cases c1 : decide ((mid : Int) < en)
    · simp -implicitDefEqProofs only [go_sem, r0, r3, r4, r18, r24]
      simp only [decide_eq_false_iff_not] at c1
      exact same _ (.inl (List.length_eq_zero_iff.1 (by omega)))
    · simp only [decide_eq_true_eq] at c1
      simp -implicitDefEqProofs only [go_sem, r0, r3, r4, r18, r24]
      cases c2 : decide ((en : Int) < e)
      · simp -implicitDefEqProofs only [go_sem, r0, r3, r4, r18, r24]
        simp only [decide_eq_false_iff_not] at c2
        exact same _ (.inr (List.length_eq_zero_iff.1 (by omega)))
      · simp only [decide_eq_true_eq] at c2
        simp -implicitDefEqProofs only [go_sem, r0, r3, r4, r18, r24, wpa_eff h55, hsf (by omega) (by omega) (by omega) hin2 hX2 hY2 hxy2, set_set]
        have := fin []
        simpa only [List.append_assoc] using this
  have same : ∀ ρ : Env, Env.get ρ 0 = some (.ref b 0 n 1) → Env.get ρ 3 = some (.int .i64 e) → Env.get ρ 4 = some (.fn 29 [] [.ptr o 0, .ptr l 0]) → Env.get ρ 18 = some (.int .i64 mid) → Env.get ρ 24 = some (.int .i64 en) → (X1 = [] ∨ Y1 = []) →
      wpk K Q f_slices_symMergeCmpFunc_int_q12 [] ρ (cw.set b (.cells (ints (A ++ X1 ++ Y1 ++ X2 ++ Y2 ++ B)))) := by
    intro ρ r0 r3 r4 r18 r24 h
    have : srt ks (X1 ++ Y1) = X1 ++ Y1 := by
      rcases h with rfl | rfl
      · exact srt_id (by simpa using hY1)
      · exact srt_id (by simpa using hX1)
    have h2 := second ρ r0 r3 r4 r18 r24
    rw [this] at h2
    simpa only [List.append_assoc] using h2
  have e1 : A ++ X1 ++ Y1 ++ X2 ++ Y2 ++ B = A ++ X1 ++ Y1 ++ (X2 ++ Y2 ++ B) := by simp
  have hsf := symF_parts (d := d) (cw := cw.set b (.cells (ints (A ++ X1 ++ Y1 ++ X2 ++ Y2 ++ B)))) (b := b) (o := o) (l := l) (n := n) (ks := ks) (A := A) (X := X1) (Y := Y1) (B := X2 ++ Y2 ++ B) (a := a) (m := s) (e := mid)
    hob hlb (hctx _) (by rw [hgt, e1]) (by simp; omega) hn ha hs hmid
  simp -implicitDefEqProofs only [f_slices_symMergeCmpFunc_int_q13, go_sem, r0, r1, r3, r4, r18, r20, r24]
  cases c1 : decide ((a : Int) < s)
  · simp -implicitDefEqProofs only [go_sem, r0, r1, r3, r4, r18, r20, r24]
    simp only [decide_eq_false_iff_not] at c1
    exact same _ rfl rfl rfl rfl rfl (.inl (List.length_eq_zero_iff.1 (by omega)))
  · simp only [decide_eq_true_eq] at c1
    simp -implicitDefEqProofs only [go_sem, r0, r1, r3, r4, r18, r20, r24]
    cases c2 : decide ((s : Int) < mid)
    · simp -implicitDefEqProofs only [go_sem, r0, r1, r3, r4, r18, r20, r24]
      simp only [decide_eq_false_iff_not] at c2
      exact same _ rfl rfl rfl rfl rfl (.inr (List.length_eq_zero_iff.1 (by omega)))
    · simp only [decide_eq_true_eq] at c2
      simp -implicitDefEqProofs only [go_sem, r0, r1, r3, r4, r18, r20, r24, wpa_eff h55, hsf (by omega) (by omega) (by omega) (by rw [← e1]; exact hin) hX1 hY1 hxy1, set_set]
      have h2 := second [(0, .ref b 0 n 1), (3, .int .i64 e), (4, .fn 29 [] [.ptr o 0, .ptr l 0]), (18, .int .i64 mid), (24, .int .i64 en)] rfl rfl rfl rfl rfl
      simpa only [List.append_assoc] using h2

set_option maxHeartbeats 2000000 in
theorem sym_great {d : Nat} (h29 : K 29 = effC cloF) (h66 : K 66 = effC rotF) (h55 : K 55 = effC (symF d)) {cw : CW} {b o l n : Nat} {ks : List Key} {A X Y B : List Int} {a m e : Nat} (hob : o ≠ b) (hlb : l ≠ b) (hks : ctxOf cw o l = some ks)
    (hg : cw.get b = some (.cells (ints (A ++ X ++ Y ++ B)))) (hl : (A ++ X ++ Y ++ B).length = n) (hn : n ≤ 1000) (ha : A.length = a) (hm : a + X.length = m) (he : m + Y.length = e) (hX0 : 2 ≤ X.length) (hY0 : 2 ≤ Y.length) (hd : e - a ≤ d + 1)
    (hin : inR ks.length (A ++ X ++ Y ++ B)) (hX : Srt ks X) (hY : Srt ks Y) (hxy : ∀ x ∈ X, ∀ y ∈ Y, x < y)
    (fin : ∀ ρ', Q .nx ρ' (cw.set b (.cells (ints (A ++ srt ks (X ++ Y) ++ B))))) {ρ : Env}
    (r0 : Env.get ρ 0 = some (.ref b 0 n 1)) (r1 : Env.get ρ 1 = some (.int .i64 a)) (r2 : Env.get ρ 2 = some (.int .i64 m)) (r3 : Env.get ρ 3 = some (.int .i64 e)) (r4 : Env.get ρ 4 = some (.fn 29 [] [.ptr o 0, .ptr l 0])) (r18 : Env.get ρ 18 = some (.int .i64 ((a + e) / 2 : Nat))) :
    wpk K Q f_slices_symMergeCmpFunc_int_q16 [] ρ cw := by
  obtain ⟨zs, hzs⟩ : ∃ zs, A ++ X ++ Y ++ B = zs := ⟨_, rfl⟩
  obtain ⟨mid, hmid⟩ : ∃ mid, (a + e) / 2 = mid := ⟨_, rfl⟩
  rw [hmid] at r18
  rw [hzs] at hg hl hin
  have hln : A.length + X.length + Y.length + B.length = n := by rw [← hl, ← hzs]; simp; omega
  have hcw : cw = cw.set b (.cells (ints zs)) := (set_self hg).symm
  have hctx : ∀ m, ctxOf (cw.set b (.cells (ints m))) o l = some ks := fun m => by rw [ctxOf_same (set_old hob) (set_old hlb)]; exact hks
  have hgt : ∀ x, (cw.set b (.cells (ints x))).get b = some (.cells (ints x)) := fun x => by simp only [go_sem]
  have main : ∀ s0 q0 : Nat, (mid < m ∧ s0 = mid + m - e ∧ q0 = mid) ∨ (m ≤ mid ∧ s0 = a ∧ q0 = m) →
      wpk K Q f_slices_symMergeCmpFunc_int_q15 [] [(0, .ref b 0 n 1), (1, .int .i64 a), (2, .int .i64 m), (3, .int .i64 e), (4, .fn 29 [] [.ptr o 0, .ptr l 0]), (18, .int .i64 mid), (19, .int .i64 (mid + m : Nat)), (20, .int .i64 s0), (21, .int .i64 q0)] cw := by
    intro s0 q0 hsq
    obtain ⟨p, hp⟩ : ∃ p, mid + m - 1 = p := ⟨_, rfl⟩
    have wp : IntKind.wrap .i64 (((mid + m : Nat) : Int) - 1) = (p : Int) := by rw [wsub1 (by omega) (by omega), hp]
    simp -implicitDefEqProofs only [f_slices_symMergeCmpFunc_int_q15, go_sem, wp]
    refine wpk_loop (fun q ρ cw' => ∃ i j : Nat, s0 ≤ i ∧ i ≤ j ∧ j ≤ q0 ∧ q = j - i ∧ (s0 < i → ltI ks (zAt zs (p - (i - 1))) (zAt zs (i - 1)) = false) ∧ (j < q0 → ltI ks (zAt zs (p - j)) (zAt zs j) = true) ∧
      ρ = [(0, .ref b 0 n 1), (1, .int .i64 a), (2, .int .i64 m), (3, .int .i64 e), (4, .fn 29 [] [.ptr o 0, .ptr l 0]), (18, .int .i64 mid), (19, .int .i64 (mid + m : Nat)), (20, .int .i64 i), (21, .int .i64 j), (22, .int .i64 p)] ∧
      cw' = cw.set b (.cells (ints zs))) (q0 - s0) ⟨s0, q0, by omega, by omega, by omega, rfl, fun h => absurd h (by omega), fun h => absurd h (by omega), rfl, hcw⟩ ?_
    rintro q ρ cw' N ⟨i, j, h1, h2, h3, rfl, h4, h5, rfl, rfl⟩ hN
    simp -implicitDefEqProofs only [f_slices_symMergeCmpFunc_int_q11, f_slices_symMergeCmpFunc_int_q10, go_sem]
    cases hlt : decide ((i : Int) < j)
    case true =>
      simp only [decide_eq_true_eq] at hlt
      obtain ⟨h, hh⟩ : ∃ h, (i + j) / 2 = h := ⟨_, rfl⟩
      have hi : i ≤ h := by omega
      have hj : h < j := by omega
      have hph : h ≤ p := by omega
      have hpl : p - h < zs.length := by omega
      have i1 : 0 ≤ ((h : Nat) : Int) ∧ ((h : Nat) : Int) < n := by omega
      have i2 : 0 ≤ ((p - h : Nat) : Int) ∧ ((p - h : Nat) : Int) < n := by omega
      have a1 := ints_at (zs := zs) (h := h) (by omega)
      have a2 := ints_at (zs := zs) (h := p - h) hpl
      have c1 := clo_at (zs := zs) (x := zAt zs (p - h)) (y := zAt zs h) hob hlb hks (hin _ (zAt_mem hpl)) (hin _ (zAt_mem (by omega)))
      simp -implicitDefEqProofs only [go_sem, wadd (i := i) (j := j) (by omega), half_u (n := i + j) (by omega), lt10, half_s (n := i + j) (by omega), hh, half_i (n := h) (by omega), wsub (i := p) (j := h) (by omega) (by omega), i1, i2, a1, a2, wpa_eff h29, c1, cmpI_lt]
      cases hc : ltI ks (zAt zs (p - h)) (zAt zs h)
      · simp -implicitDefEqProofs only [go_sem, wadd1 (i := h) (by omega)]
        exact hN (j - (h + 1)) _ _ (by omega) ⟨h + 1, j, by omega, by omega, h3, rfl, fun _ => by simpa using hc, h5, rfl, rfl⟩
      · simp -implicitDefEqProofs only [go_sem]
        exact hN (h - i) _ _ (by omega) ⟨i, h, h1, hi, by omega, rfl, h4, fun _ => hc, rfl, rfl⟩
    simp only [decide_eq_false_iff_not] at hlt
    have hij : i = j := by omega
    subst hij
    clear hN h2
    obtain ⟨en, hen⟩ : ∃ en, mid + m - i = en := ⟨_, rfl⟩
    obtain ⟨X1, X2, hX12, hX1⟩ : ∃ X1 X2, X = X1 ++ X2 ∧ a + X1.length = i := ⟨X.take (i - a), X.drop (i - a), (List.take_append_drop _ _).symm, by simp; omega⟩
    obtain ⟨Y1, Y2, hY12, hY1⟩ : ∃ Y1 Y2, Y = Y1 ++ Y2 ∧ m + Y1.length = en := ⟨Y.take (en - m), Y.drop (en - m), (List.take_append_drop _ _).symm, by simp; omega⟩
    have hXl : X1.length + X2.length = X.length := by rw [hX12]; simp
    have hYl : Y1.length + Y2.length = Y.length := by rw [hY12]; simp
    have e1 : zs = A ++ X1 ++ X2 ++ Y1 ++ Y2 ++ B := by rw [← hzs, hX12, hY12]; simp
    have wen : IntKind.wrap .i64 (((mid + m : Nat) : Int) - i) = (en : Int) := by rw [wsub (by omega) (by omega), hen]
    subst hX12 hY12
    rw [Srt, List.pairwise_append] at hX hY
    obtain ⟨sX1, sX2, cX⟩ := hX
    obtain ⟨sY1, sY2, cY⟩ := hY
    have cXY : ∀ p ∈ X1, ∀ q ∈ Y2, leI ks p q = true := by
      refine cross_le sX1 sY2 fun x y hx hy => ?_
      have hx1 : 0 < X1.length := by
        cases X1 with
        | nil => cases hx
        | cons _ _ => simp
      have hy1 : 0 < Y2.length := by
        cases Y2 with
        | nil => cases hy
        | cons _ _ => simp
      have z1 := zAt_last (A := A) (R := X2 ++ Y1 ++ Y2 ++ B) hx
      rw [show A ++ X1 ++ (X2 ++ Y1 ++ Y2 ++ B) = zs by rw [e1]; simp, show A.length + X1.length - 1 = i - 1 by omega] at z1
      have z2 := zAt_head (A := A ++ X1 ++ X2 ++ Y1) (R := B) hy
      rw [← e1, show (A ++ X1 ++ X2 ++ Y1).length = p - (i - 1) by simp; omega] at z2
      have h6 := h4 (by omega)
      rw [z1, z2] at h6
      exact leI_of_not h6 (by have := hxy x (List.mem_append_left _ (List.mem_of_getLast? hx)) y (List.mem_append_right _ (List.mem_of_mem_head? hy)); omega)
    have cYX : ∀ p ∈ Y1, ∀ q ∈ X2, leI ks p q = true := by
      refine cross_le sY1 sX2 fun y x hy hx => ?_
      have hx1 : 0 < X2.length := by
        cases X2 with
        | nil => cases hx
        | cons _ _ => simp
      have hy1 : 0 < Y1.length := by
        cases Y1 with
        | nil => cases hy
        | cons _ _ => simp
      have z1 := zAt_head (A := A ++ X1) (R := Y1 ++ Y2 ++ B) hx
      rw [show A ++ X1 ++ X2 ++ (Y1 ++ Y2 ++ B) = zs by rw [e1]; simp, show (A ++ X1).length = i by simp; omega] at z1
      have z2 := zAt_last (A := A ++ X1 ++ X2) (R := Y2 ++ B) hy
      rw [show A ++ X1 ++ X2 ++ Y1 ++ (Y2 ++ B) = zs by rw [e1]; simp, show (A ++ X1 ++ X2).length + Y1.length - 1 = p - i by simp; omega] at z2
      have h6 := h5 (by omega)
      rw [z1, z2] at h6
      exact leI_of_lt h6
    have hperm : (X1 ++ Y1 ++ (X2 ++ Y2)).Perm (X1 ++ X2 ++ (Y1 ++ Y2)) := by
      simp only [List.append_assoc]
      refine List.Perm.append_left X1 ?_
      rw [← List.append_assoc, ← List.append_assoc]
      exact List.Perm.append_right Y2 List.perm_append_comm
    rw [← srt_of_perm hperm] at fin
    have hcross : ∀ p ∈ X1 ++ Y1, ∀ q ∈ X2 ++ Y2, leI ks p q = true := by
      intro p hp q hq
      rcases List.mem_append.1 hp with hp | hp <;> rcases List.mem_append.1 hq with hq | hq
      · exact cX p hp q hq
      · exact cXY p hp q hq
      · exact cYX p hp q hq
      · exact cY p hp q hq
    have halves : ∀ ρ : Env, Env.get ρ 0 = some (.ref b 0 n 1) → Env.get ρ 1 = some (.int .i64 a) → Env.get ρ 3 = some (.int .i64 e) → Env.get ρ 4 = some (.fn 29 [] [.ptr o 0, .ptr l 0]) → Env.get ρ 18 = some (.int .i64 mid) → Env.get ρ 20 = some (.int .i64 i) →
        Env.get ρ 24 = some (.int .i64 en) → wpk K Q f_slices_symMergeCmpFunc_int_q13 [] ρ (cw.set b (.cells (ints (A ++ X1 ++ Y1 ++ X2 ++ Y2 ++ B)))) := by
      intro ρ r0 r1 r3 r4 r18 r20 r24
      refine sym_halves h55 hob hlb hks (by simp; omega) hn ha hX1 (by omega) (by omega) (by omega) hd (by omega) (by omega) ?_ sX1 sY1 sX2 sY2 (fun x hx y hy => hxy x (List.mem_append_left _ hx) y (List.mem_append_left _ hy)) (fun x hx y hy => hxy x (List.mem_append_right _ hx) y (List.mem_append_right _ hy)) hcross r0 r1 r3 r4 r18 r20 r24 fin
      intro z hz
      refine hin z ?_
      rw [e1]
      simp only [List.mem_append] at hz ⊢
      rcases hz with (((hz | hz) | hz) | hz) | hz
      all_goals first | (rcases hz with hz | hz <;> simp [hz]) | simp [hz]
    simp -implicitDefEqProofs only [go_sem, hlt, decide_false, wen, f_slices_symMergeCmpFunc_int_q14]
    have same : ∀ ρ : Env, Env.get ρ 0 = some (.ref b 0 n 1) → Env.get ρ 1 = some (.int .i64 a) → Env.get ρ 3 = some (.int .i64 e) → Env.get ρ 4 = some (.fn 29 [] [.ptr o 0, .ptr l 0]) → Env.get ρ 18 = some (.int .i64 mid) → Env.get ρ 20 = some (.int .i64 i) →
        Env.get ρ 24 = some (.int .i64 en) → (X2 = [] ∨ Y1 = []) → wpk K Q f_slices_symMergeCmpFunc_int_q13 [] ρ (cw.set b (.cells (ints zs))) := by
      intro ρ r0 r1 r3 r4 r18 r20 r24 h
      have h2 := halves ρ r0 r1 r3 r4 r18 r20 r24
      rw [e1]
      rcases h with rfl | rfl <;> simpa only [List.append_nil] using h2
    cases c1 : decide ((i : Int) < m)
    · simp -implicitDefEqProofs only [go_sem]
      simp only [decide_eq_false_iff_not] at c1
      exact same _ rfl rfl rfl rfl rfl rfl rfl (.inl (List.length_eq_zero_iff.1 (by omega)))
    · simp only [decide_eq_true_eq] at c1
      simp -implicitDefEqProofs only [go_sem]
      cases c2 : decide ((m : Int) < en)
      · simp -implicitDefEqProofs only [go_sem]
        simp only [decide_eq_false_iff_not] at c2
        exact same _ rfl rfl rfl rfl rfl rfl rfl (.inr (List.length_eq_zero_iff.1 (by omega)))
      · simp only [decide_eq_true_eq] at c2
        have hrot : rotF [.ref b 0 n 1, .int .i64 i, .int .i64 m, .int .i64 en, .fn 29 [] [.ptr o 0, .ptr l 0]] (cw.set b (.cells (ints zs))) = some (.tup [], cw.set b (.cells (ints (A ++ X1 ++ Y1 ++ X2 ++ Y2 ++ B)))) := by
          simp only [rotF, datOf_of (hgt _) hl, Option.bind_some, set_set]
          rw [if_pos ⟨by omega, by omega, by omega, by omega, hn⟩]
          simp only [Int.toNat_natCast]
          have e2 : zs = (A ++ X1) ++ X2 ++ Y1 ++ (Y2 ++ B) := by rw [e1]; simp
          rw [e2, rot_parts (by simp; omega) (by omega) hY1]
          simp
        simp -implicitDefEqProofs only [go_sem, wpa_eff h66, hrot]
        exact halves _ rfl rfl rfl rfl rfl rfl rfl
  simp -implicitDefEqProofs only [f_slices_symMergeCmpFunc_int_q16, f_slices_symMergeCmpFunc_int_q9, go_sem, r0, r1, r2, r3, r4, r18, wadd (i := mid) (j := m) (by omega)]
  cases c0 : decide ((m : Int) > mid)
  · simp -implicitDefEqProofs only [go_sem]
    simp only [decide_eq_false_iff_not] at c0
    exact main a m (.inr ⟨by omega, rfl, rfl⟩)
  · simp only [decide_eq_true_eq] at c0
    simp -implicitDefEqProofs only [go_sem, wsub (i := mid + m) (j := e) (by omega) (by omega)]
    exact main _ _ (.inl ⟨by omega, rfl, rfl⟩)

set_option maxHeartbeats 2000000 in
theorem sym_runs {d : Nat} (h29 : K 29 = effC cloF) (h66 : K 66 = effC rotF) (h55 : K 55 = effC (symF d)) : RunsW K f_slices_symMergeCmpFunc_int (symF (d + 1)) := by
  intro args cw v cw' h
  unfold symF at h
  split at h
  · rename_i b n a0 m0 e0 o l
    simp only [Option.bind_eq_some_iff] at h
    obtain ⟨zs, hzs, ks, hks, h⟩ := h
    split at h
    case isFalse => cases h
    rename_i hc
    cases h
    obtain ⟨hob, hlb, ha0, ham, hme, hen, hn, hd, hin, hX, hY, hxy⟩ := hc
    obtain ⟨hg, hlen⟩ := datOf_cases hzs
    obtain ⟨a, rfl⟩ := Int.eq_ofNat_of_zero_le ha0
    obtain ⟨m, rfl⟩ := Int.eq_ofNat_of_zero_le (show (0 : Int) ≤ m0 by omega)
    obtain ⟨e, rfl⟩ := Int.eq_ofNat_of_zero_le (show (0 : Int) ≤ e0 by omega)
    simp only [Int.toNat_natCast] at hX hY hxy ⊢
    obtain ⟨A, X, Y, B, hz, hA, hXl, hYl, hX2, hY2, _, _⟩ := parts4 (zs := zs) (a := a) (m := m) (e := e) (by omega) (by omega) (by omega)
    rw [← hX2] at hX hxy
    rw [← hY2] at hY hxy
    have hres : sortSeg ks zs a e = A ++ srt ks (X ++ Y) ++ B := by
      rw [hz, show A ++ X ++ Y ++ B = A ++ (X ++ Y) ++ B by simp]
      exact sortSeg_parts hA (by simp; omega)
    rw [hres]
    clear hX2 hY2 hres hzs
    refine ⟨rfl, fun Q hQ => ?_⟩
    have fin : ∀ e ρ, (e = .nx ∨ e = .ret) → Q e ρ (cw.set b (.cells (ints (A ++ srt ks (X ++ Y) ++ B)))) := fun e ρ he => hQ e ρ he rfl
    clear hQ
    have w1 : IntKind.wrap .i64 ((m : Int) - a) = ((m - a : Nat) : Int) := wsub (by omega) (by omega)
    have w2 : IntKind.wrap .i64 ((e : Int) - m) = ((e - m : Nat) : Int) := wsub (by omega) (by omega)
    simp -implicitDefEqProofs only [f_slices_symMergeCmpFunc_int, go_sem, w1]
    cases t1 : (((m - a : Nat) : Int) == 1)
    case true =>
      have h1 : X.length = 1 := by have := beq_iff_eq.1 t1; omega
      obtain ⟨x, rfl⟩ := List.length_eq_one_iff.1 h1
      have hz' : zs = A ++ x :: (Y ++ B) := by rw [hz]; simp
      simp -implicitDefEqProofs only [go_sem]
      have := sym1 (Q := Q) (K := K) (s := [.code f_slices_symMergeCmpFunc_int_q17]) h29 hob hlb hks (A := A) (x := x) (Y := Y) (B := B) (by rw [← hz']; exact hg) (by rw [← hz']; omega) (by rw [← hz']; exact hin) hY (fun y hy => hxy x (by simp) y hy) (fun ρ => fin _ ρ (.inr rfl))
      rw [← hz', hlen, hA, show a + 1 = m by simp at hXl; omega, show m + Y.length = e by omega] at this
      exact this
    have t1' : X.length ≠ 1 := by intro h; rw [show m - a = 1 by omega] at t1; cases t1
    simp -implicitDefEqProofs only [f_slices_symMergeCmpFunc_int_q17, go_sem, w2]
    cases t2 : (((e - m : Nat) : Int) == 1)
    case true =>
      have h1 : Y.length = 1 := by have := beq_iff_eq.1 t2; omega
      obtain ⟨y, rfl⟩ := List.length_eq_one_iff.1 h1
      have hz' : zs = A ++ X ++ y :: B := by rw [hz]; simp
      simp -implicitDefEqProofs only [go_sem]
      refine' (fun hh => ?_) (sym2 (Q := Q) (K := K) (b := b) h29 hob hlb hks (A := A) (x := y) (X := X) (B := B) (by rw [← hz']; exact hg) (by rw [← hz']; omega) (by rw [← hz']; exact hin) hX (fun x hx => hxy x hx y (by simp)) (fun ρ => fin _ ρ (.inr rfl)))
      rw [← hz', hlen, hA, show a + X.length = m by omega] at hh
      exact hh
    have t2' : Y.length ≠ 1 := by intro h; rw [show e - m = 1 by omega] at t2; cases t2
    simp -implicitDefEqProofs only [go_sem, wadd (i := a) (j := e) (by omega), half_u (n := a + e) (by omega), lt10, half_s (n := a + e) (by omega), half_i (n := (a + e) / 2) (by omega)]
    exact sym_great h29 h66 h55 hob hlb hks (by rw [← hz]; exact hg) (by rw [← hz]; exact hlen) hn hA (by omega) (by omega) (by omega) (by omega) (by omega) (by rw [← hz]; exact hin) hX hY hxy (fun ρ => fin _ ρ (.inl rfl)) rfl rfl rfl rfl rfl rfl
  · cases h

end Go.Cs

/- slices: the stable sort of at most sixty. -/
namespace Go.Cs
variable {K : Nat → Ct} {Q : RE → Env → CW → Prop}

theorem insF_parts {cw : CW} {b o l n : Nat} {ks : List Key} {A X B : List Int} {a e : Nat} (hob : o ≠ b) (hlb : l ≠ b) (hks : ctxOf cw o l = some ks) (hg : cw.get b = some (.cells (ints (A ++ X ++ B)))) (hl : (A ++ X ++ B).length = n) (hn : n ≤ 1000)
    (ha : A.length = a) (he : a + X.length = e) (hin : inR ks.length (A ++ X ++ B)) (hX : asc X) :
    insF [.ref b 0 n 1, .int .i64 a, .int .i64 e, .fn 29 [] [.ptr o 0, .ptr l 0]] cw = some (.tup [], cw.set b (.cells (ints (A ++ srt ks X ++ B)))) := by
  have s1 : seg (A ++ X ++ B) a e = X := seg_parts ha he
  have s3 : sortSeg ks (A ++ X ++ B) a e = A ++ srt ks X ++ B := sortSeg_parts ha he
  have hl' := hl
  simp only [List.length_append] at hl'
  simp only [insF, datOf_of hg hl, hks, Option.bind_some, Int.toNat_natCast, s1, s3]
  rw [if_pos ⟨hob, hlb, by omega, by omega, by omega, hn, hin, by rw [s1]; exact hX⟩]

open Classical in
/-- slices.stableCmpFunc, over what stands in order of number. -/
noncomputable def stableF : List CV → CW → Option (CV × CW)
  | [.ref b 0 n 1, .int .i64 n', .fn 29 [] [.ptr o 0, .ptr l 0]], cw => (datOf cw b n).bind fun zs => (ctxOf cw o l).bind fun ks =>
    if n' = n ∧ o ≠ b ∧ l ≠ b ∧ n ≤ 60 ∧ inR ks.length zs ∧ asc zs then some (.tup [], cw.set b (.cells (ints (srt ks zs)))) else none
  | [.nils, .int .i64 0, _], cw => some (.tup [], cw)
  | _, _ => none
open Classical in
noncomputable def sortStF : List CV → CW → Option (CV × CW)
  | [.ref b 0 n 1, .fn 29 [] [.ptr o 0, .ptr l 0]], cw => (datOf cw b n).bind fun zs => (ctxOf cw o l).bind fun ks =>
    if o ≠ b ∧ l ≠ b ∧ n ≤ 60 ∧ inR ks.length zs ∧ asc zs then some (.tup [], cw.set b (.cells (ints (srt ks zs)))) else none
  | [.nils, _], cw => some (.tup [], cw)
  | _, _ => none

theorem sortSt_runs (h37 : K 37 = effC stableF) : RunsW K f_slices_SortStableFunc_int_int sortStF := by
  intro args cw v cw' h
  unfold sortStF at h
  split at h
  · rename_i b n o l
    simp only [Option.bind_eq_some_iff] at h
    obtain ⟨zs, hzs, ks, hks, h⟩ := h
    split at h
    case isFalse => cases h
    rename_i hc
    cases h
    refine ⟨rfl, fun Q hQ => ?_⟩
    have hs : stableF [.ref b 0 n 1, .int .i64 n, .fn 29 [] [.ptr o 0, .ptr l 0]] cw = some (.tup [], cw.set b (.cells (ints (srt ks zs)))) := by
      simp only [stableF, hzs, hks, Option.bind_some]
      rw [if_pos ⟨rfl, hc.1, hc.2.1, hc.2.2.1, hc.2.2.2.1, hc.2.2.2.2⟩]
    simp -implicitDefEqProofs only [f_slices_SortStableFunc_int_int, go_sem, wpa_eff h37, hs]
    exact hQ .nx _ (.inl rfl) rfl
  · rename_i fx
    cases h
    refine ⟨rfl, fun Q hQ => ?_⟩
    simp -implicitDefEqProofs only [f_slices_SortStableFunc_int_int, go_sem, wpa_eff h37, stableF]
    exact hQ .nx _ (.inl rfl) rfl
  · cases h

/-- A row whose first blocks are sorted. -/
def stP (ks : List Key) (Z1 Z2 Z3 : List Int) : Nat → List Int
  | 0 => Z1 ++ Z2 ++ Z3
  | 1 => srt ks Z1 ++ Z2 ++ Z3
  | 2 => srt ks Z1 ++ srt ks Z2 ++ Z3
  | _ => srt ks Z1 ++ srt ks Z2 ++ srt ks Z3
theorem srt_nil (ks : List Key) : srt ks [] = [] := by simp [srt]

set_option maxHeartbeats 2000000 in
theorem stable_runs (h54 : K 54 = effC insF) (h55 : K 55 = effC (symF 60)) : RunsW K f_slices_stableCmpFunc_int stableF := by
  intro args cw v cw' h
  unfold stableF at h
  split at h
  · rename_i b n n' o l
    simp only [Option.bind_eq_some_iff] at h
    obtain ⟨zs, hzs, ks, hks, h⟩ := h
    split at h
    case isFalse => cases h
    rename_i hc
    cases h
    obtain ⟨rfl, hob, hlb, hn, hin, hasc⟩ := hc
    obtain ⟨hg, hlen⟩ := datOf_cases hzs
    clear hzs
    refine ⟨rfl, fun Q hQ => ?_⟩
    have fin : ∀ ρ, Q .nx ρ (cw.set b (.cells (ints (srt ks zs)))) := fun ρ => hQ .nx ρ (.inl rfl) rfl
    clear hQ
    have hctx : ∀ m, ctxOf (cw.set b (.cells (ints m))) o l = some ks := fun m => by rw [ctxOf_same (set_old hob) (set_old hlb)]; exact hks
    have hgt : ∀ x, (cw.set b (.cells (ints x))).get b = some (.cells (ints x)) := fun x => by simp only [go_sem]
    obtain ⟨Z1, Z2, Z3, hz, hz1, hz2⟩ : ∃ Z1 Z2 Z3, zs = Z1 ++ Z2 ++ Z3 ∧ Z1.length = min 20 n ∧ Z2.length = min 20 (n - 20) :=
      ⟨zs.take 20, (zs.drop 20).take 20, (zs.drop 20).drop 20, by rw [List.append_assoc, List.take_append_drop, List.take_append_drop], by simp [hlen], by simp [hlen]⟩
    have hz3 : Z1.length + Z2.length + Z3.length = n := by rw [← hlen, hz]; simp; omega
    have hasc' := hasc
    unfold asc at hasc'
    rw [hz, List.pairwise_append, List.pairwise_append] at hasc'
    obtain ⟨⟨as1, as2, as12⟩, as3, as123⟩ := hasc'
    have mem : ∀ {M : List Int}, M.Perm zs → inR ks.length M := fun hp z hz => hin z (hp.mem_iff.1 hz)
    have ps : ∀ Z, (srt ks Z).Perm Z := srt_perm ks
    obtain ⟨Wd, hWd⟩ : ∃ Wd : List Int → CW, ∀ m, Wd m = cw.set b (.cells (ints m)) := ⟨_, fun _ => rfl⟩
    have ins : ∀ (A X B : List Int) (a e : Nat), (A ++ X ++ B).Perm zs → A.length = a → a + X.length = e → asc X →
        insF [.ref b 0 n 1, .int .i64 a, .int .i64 e, .fn 29 [] [.ptr o 0, .ptr l 0]] (Wd (A ++ X ++ B)) = some (.tup [], Wd (A ++ srt ks X ++ B)) := by
      intro A X B a e hp ha he hX
      rw [hWd, hWd]
      have := insF_parts (n := n) (cw := cw.set b (.cells (ints (A ++ X ++ B)))) hob hlb (hctx _) (hgt _) (by rw [hp.length_eq]; exact hlen) (by omega) ha he (mem hp) hX
      rw [this, set_set]
    have sym : ∀ (A X Y B : List Int) (a m e : Nat), (A ++ X ++ Y ++ B).Perm zs → A.length = a → a + X.length = m → m + Y.length = e → 0 < X.length → 0 < Y.length → Srt ks X → Srt ks Y → (∀ x ∈ X, ∀ y ∈ Y, x < y) →
        symF 60 [.ref b 0 n 1, .int .i64 a, .int .i64 m, .int .i64 e, .fn 29 [] [.ptr o 0, .ptr l 0]] (Wd (A ++ X ++ Y ++ B)) = some (.tup [], Wd (A ++ srt ks (X ++ Y) ++ B)) := by
      intro A X Y B a m e hp ha hm he hX0 hY0 hX hY hxy
      have hl2 : (A ++ X ++ Y ++ B).length = n := by rw [hp.length_eq]; exact hlen
      have hl3 := hl2
      simp only [List.length_append] at hl3
      rw [hWd, hWd]
      have := symF_parts (d := 60) (cw := cw.set b (.cells (ints (A ++ X ++ Y ++ B)))) hob hlb (hctx _) (hgt _) hl2 (by omega) ha hm he hX0 hY0 (by omega) (mem hp) hX hY hxy
      rw [this, set_set]
    have hp1 : (srt ks Z1 ++ Z2 ++ Z3).Perm zs := by rw [hz]; exact ((ps Z1).append_right _).append_right _
    have hp2 : (srt ks Z1 ++ srt ks Z2 ++ Z3).Perm zs := by rw [hz]; exact ((ps Z1).append (ps Z2)).append_right _
    have hp3 : (srt ks Z1 ++ srt ks Z2 ++ srt ks Z3).Perm zs := by rw [hz]; exact ((ps Z1).append (ps Z2)).append (ps Z3)
    have hL := srt_length ks
    have hstep : ∀ k : Nat, 20 * k + 20 ≤ n → insF [.ref b 0 n 1, .int .i64 (20 * k : Nat), .int .i64 (20 * k + 20 : Nat), .fn 29 [] [.ptr o 0, .ptr l 0]] (Wd (stP ks Z1 Z2 Z3 k)) = some (.tup [], Wd (stP ks Z1 Z2 Z3 (k + 1))) := by
      intro k hk
      match k with
      | 0 =>
        have := ins [] Z1 (Z2 ++ Z3) 0 20 (by rw [hz]; simp) rfl (by omega) as1
        simpa only [List.nil_append, List.append_assoc, stP] using this
      | 1 => exact ins (srt ks Z1) Z2 Z3 20 40 hp1 (by rw [hL]; omega) (by omega) as2
      | 2 =>
        have := ins (srt ks Z1 ++ srt ks Z2) Z3 [] 40 60 (by simpa using hp2) (by simp [hL]; omega) (by omega) as3
        simpa only [List.append_nil, stP] using this
      | k + 3 => omega
    have hlast : ∀ k : Nat, 20 * k ≤ n → n < 20 * k + 20 → insF [.ref b 0 n 1, .int .i64 (20 * k : Nat), .int .i64 n, .fn 29 [] [.ptr o 0, .ptr l 0]] (Wd (stP ks Z1 Z2 Z3 k)) = some (.tup [], Wd (stP ks Z1 Z2 Z3 3)) := by
      intro k hk1 hk2
      match k with
      | 0 =>
        have e2 : Z2 = [] := List.length_eq_zero_iff.1 (by omega)
        have e3 : Z3 = [] := List.length_eq_zero_iff.1 (by omega)
        have := ins [] Z1 [] 0 n (by rw [hz, e2, e3]; simp) rfl (by omega) as1
        simpa only [e2, e3, List.nil_append, List.append_nil, stP, srt_nil] using this
      | 1 =>
        have e3 : Z3 = [] := List.length_eq_zero_iff.1 (by omega)
        have := ins (srt ks Z1) Z2 [] 20 n (by rw [e3] at hp1; exact hp1) (by rw [hL]; omega) (by omega) as2
        simpa only [e3, List.append_nil, stP, srt_nil] using this
      | 2 =>
        have := ins (srt ks Z1 ++ srt ks Z2) Z3 [] 40 n (by simpa using hp2) (by simp [hL]; omega) (by omega) as3
        simpa only [List.append_nil, stP] using this
      | 3 =>
        have := ins (srt ks Z1 ++ srt ks Z2 ++ srt ks Z3) [] [] 60 n (by simpa using hp3) (by simp [hL]; omega) (by simp; omega) List.Pairwise.nil
        simpa only [List.append_nil, stP, srt_nil] using this
      | k + 4 => omega
    have w20 : ∀ k : Nat, k < 100 → IntKind.wrap .i64 ((k : Int) + 20) = ((k + 20 : Nat) : Int) := fun k hk => by rw [wrap_i64 (by omega) (by omega)]; omega
    simp -implicitDefEqProofs only [f_slices_stableCmpFunc_int, go_sem]
    refine wpk_loop (fun q ρ cw' => ∃ k : Nat, q = 3 - k ∧ 20 * k ≤ n ∧ ρ = [(0, .ref b 0 n 1), (1, .int .i64 n), (2, .fn 29 [] [.ptr o 0, .ptr l 0]), (6, .int .i64 20), (7, .int .i64 (20 * k : Nat)), (8, .int .i64 (20 * k + 20 : Nat))] ∧
      cw' = Wd (stP ks Z1 Z2 Z3 k)) 3 ⟨0, rfl, by omega, rfl, by rw [hWd, stP, ← hz]; exact (set_self hg).symm⟩ ?_
    rintro q ρ cw' N ⟨k, rfl, hk, rfl, rfl⟩ hN
    simp -implicitDefEqProofs only [f_slices_stableCmpFunc_int_q1, go_sem]
    cases hle : decide (((20 * k + 20 : Nat) : Int) ≤ n)
    case true =>
      simp only [decide_eq_true_eq] at hle
      simp -implicitDefEqProofs only [go_sem, wpa_eff h54, hstep k (by omega), w20 (20 * k + 20) (by omega)]
      exact hN (3 - (k + 1)) _ _ (by omega) ⟨k + 1, rfl, by omega, by rw [show 20 * (k + 1) = 20 * k + 20 by omega], rfl⟩
    simp only [decide_eq_false_iff_not] at hle
    simp -implicitDefEqProofs only [go_sem, wpa_eff h54, hlast k hk (by omega)]
    clear hN
    have hP3 : stP ks Z1 Z2 Z3 3 = srt ks Z1 ++ srt ks Z2 ++ srt ks Z3 := rfl
    -- merging
    have s12 : n ≤ 20 → srt ks Z1 ++ srt ks Z2 ++ srt ks Z3 = srt ks zs := by
      intro h
      have e2 : Z2 = [] := List.length_eq_zero_iff.1 (by omega)
      have e3 : Z3 = [] := List.length_eq_zero_iff.1 (by omega)
      rw [hz, e2, e3]; simp [srt_nil]
    have s23 : n ≤ 40 → srt ks (Z1 ++ Z2) ++ srt ks Z3 = srt ks zs := by
      intro h
      have e3 : Z3 = [] := List.length_eq_zero_iff.1 (by omega)
      rw [hz, e3]; simp [srt_nil]
    have m12 : srt ks (srt ks Z1 ++ srt ks Z2) = srt ks (Z1 ++ Z2) := srt_of_perm ((ps Z1).append (ps Z2))
    have m123 : srt ks (srt ks (Z1 ++ Z2) ++ srt ks Z3) = srt ks zs := by rw [hz]; exact srt_of_perm ((ps _).append (ps _))
    have lt12 : ∀ x ∈ srt ks Z1, ∀ y ∈ srt ks Z2, x < y := fun x hx y hy => as12 x ((ps _).mem_iff.1 hx) y ((ps _).mem_iff.1 hy)
    have lt123 : ∀ x ∈ srt ks (Z1 ++ Z2), ∀ y ∈ srt ks Z3, x < y := fun x hx y hy => as123 x ((ps _).mem_iff.1 hx) y ((ps _).mem_iff.1 hy)
    have hp4 : (srt ks (Z1 ++ Z2) ++ srt ks Z3).Perm zs := by rw [hz]; exact (ps _).append (ps _)
    refine wpk_loop (fun q ρ cw' => (q = 2 ∧ ρ = [(0, .ref b 0 n 1), (1, .int .i64 n), (2, .fn 29 [] [.ptr o 0, .ptr l 0]), (6, .int .i64 20)] ∧ cw' = Wd (stP ks Z1 Z2 Z3 3)) ∨
      (q = 1 ∧ ρ = [(0, .ref b 0 n 1), (1, .int .i64 n), (2, .fn 29 [] [.ptr o 0, .ptr l 0]), (6, .int .i64 40)] ∧ cw' = Wd (srt ks (Z1 ++ Z2) ++ srt ks Z3)) ∨
      (q = 0 ∧ ρ = [(0, .ref b 0 n 1), (1, .int .i64 n), (2, .fn 29 [] [.ptr o 0, .ptr l 0]), (6, .int .i64 80)] ∧ cw' = Wd (srt ks zs))) 2 (.inl ⟨rfl, rfl, rfl⟩) ?_
    rintro q ρ cw' N2 (⟨rfl, rfl, rfl⟩ | ⟨rfl, rfl, rfl⟩ | ⟨rfl, rfl, rfl⟩) hN
    · simp -implicitDefEqProofs only [f_slices_stableCmpFunc_int_q4, go_sem]
      cases hlt : decide ((20 : Int) < n)
      · simp only [decide_eq_false_iff_not] at hlt
        simp -implicitDefEqProofs only [go_sem]
        rw [hP3, s12 (by omega), hWd]
        exact fin _
      simp only [decide_eq_true_eq] at hlt
      have w40 : IntKind.wrap .i64 ((2 : Int) * 20) = 40 := by decide
      simp -implicitDefEqProofs only [go_sem, w40]
      have ww : IntKind.wrap .i64 ((0 : Int) + 20) = 20 := by decide
      have w2 : IntKind.wrap .i64 ((20 : Int) * 2) = 40 := by decide
      have w4 : IntKind.wrap .i64 ((40 : Int) + 40) = 80 := by decide
      have w6 : IntKind.wrap .i64 ((40 : Int) + 20) = 60 := by decide
      have hl1 : (srt ks Z1).length = 20 := by rw [hL]; omega
      refine wpk_loop (fun q ρ cw' => (q = 1 ∧ ρ = [(0, .ref b 0 n 1), (1, .int .i64 n), (2, .fn 29 [] [.ptr o 0, .ptr l 0]), (6, .int .i64 20), (7, .int .i64 0), (8, .int .i64 40)] ∧ cw' = Wd (stP ks Z1 Z2 Z3 3)) ∨
        (q = 0 ∧ 40 ≤ n ∧ ρ = [(0, .ref b 0 n 1), (1, .int .i64 n), (2, .fn 29 [] [.ptr o 0, .ptr l 0]), (6, .int .i64 20), (7, .int .i64 40), (8, .int .i64 80)] ∧ cw' = Wd (srt ks (Z1 ++ Z2) ++ srt ks Z3))) 1 (.inl ⟨rfl, rfl, rfl⟩) ?_
      have next : N2 [(0, .ref b 0 n 1), (1, .int .i64 n), (2, .fn 29 [] [.ptr o 0, .ptr l 0]), (6, .int .i64 40)] (Wd (srt ks (Z1 ++ Z2) ++ srt ks Z3)) := hN 1 _ _ (by omega) (.inr (.inl ⟨rfl, rfl, rfl⟩))
      rintro q ρ cw' N3 (⟨rfl, rfl, rfl⟩ | ⟨rfl, h40, rfl, rfl⟩) hN3
      · simp -implicitDefEqProofs only [f_slices_stableCmpFunc_int_q2, go_sem]
        cases h40 : decide ((40 : Int) ≤ n)
        · simp only [decide_eq_false_iff_not] at h40
          have e3 : Z3 = [] := List.length_eq_zero_iff.1 (by omega)
          have h20 : decide ((20 : Int) < n) = true := by simp; omega
          have hs := sym [] (srt ks Z1) (srt ks Z2) (srt ks Z3) 0 20 n (by simpa using hp3) rfl (by simp; omega) (by rw [hL]; omega) (by omega) (by rw [hL]; omega) (srt_sorted ks _) (srt_sorted ks _) lt12
          simp only [List.nil_append] at hs
          rw [m12] at hs
          have hs' : symF 60 [.ref b 0 n 1, .int .i64 0, .int .i64 20, .int .i64 n, .fn 29 [] [.ptr o 0, .ptr l 0]] (Wd (srt ks Z1 ++ srt ks Z2 ++ srt ks Z3)) = some (.tup [], Wd (srt ks (Z1 ++ Z2) ++ srt ks Z3)) := hs
          simp -implicitDefEqProofs only [f_slices_stableCmpFunc_int_q3, go_sem, ww, h20, wpa_eff h55, hP3, hs', w2]
          exact next
        · simp only [decide_eq_true_eq] at h40
          have hs := sym [] (srt ks Z1) (srt ks Z2) (srt ks Z3) 0 20 40 (by simpa using hp3) rfl (by simp; omega) (by rw [hL]; omega) (by omega) (by rw [hL]; omega) (srt_sorted ks _) (srt_sorted ks _) lt12
          simp only [List.nil_append] at hs
          rw [m12] at hs
          have hs' : symF 60 [.ref b 0 n 1, .int .i64 0, .int .i64 20, .int .i64 40, .fn 29 [] [.ptr o 0, .ptr l 0]] (Wd (srt ks Z1 ++ srt ks Z2 ++ srt ks Z3)) = some (.tup [], Wd (srt ks (Z1 ++ Z2) ++ srt ks Z3)) := hs
          simp -implicitDefEqProofs only [go_sem, ww, wpa_eff h55, hP3, hs', w40, w4]
          exact hN3 0 _ _ (by omega) (.inr ⟨rfl, by omega, rfl, rfl⟩)
      · have h80 : decide ((80 : Int) ≤ n) = false := by simp; omega
        have h60 : decide ((60 : Int) < n) = false := by simp; omega
        simp -implicitDefEqProofs only [f_slices_stableCmpFunc_int_q2, f_slices_stableCmpFunc_int_q3, go_sem, h80, w6, h60, w2]
        exact next
    · simp -implicitDefEqProofs only [f_slices_stableCmpFunc_int_q4, go_sem]
      cases hlt : decide ((40 : Int) < n)
      · simp only [decide_eq_false_iff_not] at hlt
        simp -implicitDefEqProofs only [go_sem]
        rw [s23 (by omega), hWd]
        exact fin _
      simp only [decide_eq_true_eq] at hlt
      have w80 : IntKind.wrap .i64 ((2 : Int) * 40) = 80 := by decide
      simp -implicitDefEqProofs only [go_sem, w80]
      have ww : IntKind.wrap .i64 ((0 : Int) + 40) = 40 := by decide
      have w2 : IntKind.wrap .i64 ((40 : Int) * 2) = 80 := by decide
      refine wpk_loop (fun q ρ cw' => ρ = [(0, .ref b 0 n 1), (1, .int .i64 n), (2, .fn 29 [] [.ptr o 0, .ptr l 0]), (6, .int .i64 40), (7, .int .i64 0), (8, .int .i64 80)] ∧ cw' = Wd (srt ks (Z1 ++ Z2) ++ srt ks Z3)) 0 ⟨rfl, rfl⟩ ?_
      rintro q ρ cw' N3 ⟨rfl, rfl⟩ hN3
      have h80 : decide ((80 : Int) ≤ n) = false := by simp; omega
      have h40 : decide ((40 : Int) < n) = true := by simp; omega
      have hs := sym [] (srt ks (Z1 ++ Z2)) (srt ks Z3) [] 0 40 n (by simpa using hp4) rfl (by simp [hL]; omega) (by rw [hL]; omega) (by rw [hL]; simp; omega) (by rw [hL]; omega) (srt_sorted ks _) (srt_sorted ks _) lt123
      simp only [List.nil_append, List.append_nil] at hs
      rw [m123] at hs
      have hs' : symF 60 [.ref b 0 n 1, .int .i64 0, .int .i64 40, .int .i64 n, .fn 29 [] [.ptr o 0, .ptr l 0]] (Wd (srt ks (Z1 ++ Z2) ++ srt ks Z3)) = some (.tup [], Wd (srt ks zs)) := hs
      simp -implicitDefEqProofs only [f_slices_stableCmpFunc_int_q2, f_slices_stableCmpFunc_int_q3, go_sem, h80, ww, h40, wpa_eff h55, hs', w2]
      exact hN 0 _ _ (by omega) (.inr (.inr ⟨rfl, rfl, rfl⟩))
    · simp -implicitDefEqProofs only [f_slices_stableCmpFunc_int_q4, go_sem]
      have hf : decide ((80 : Int) < n) = false := by simp; omega
      simp -implicitDefEqProofs only [go_sem, hf]
      rw [hWd]
      exact fin _
  · rename_i fx
    cases h
    refine ⟨rfl, fun Q hQ => ?_⟩
    have hf : decide ((20 : Int) ≤ 0) = false := by decide
    have hf2 : decide ((20 : Int) < 0) = false := by decide
    simp -implicitDefEqProofs only [f_slices_stableCmpFunc_int, go_sem]
    refine wpk_loop (fun m ρ cw' => ρ = [(0, .nils), (1, .int .i64 0), (2, fx), (6, .int .i64 20), (7, .int .i64 0), (8, .int .i64 20)] ∧ cw' = cw) 0 ⟨rfl, rfl⟩ ?_
    rintro m ρ cw' N ⟨rfl, rfl⟩ hN
    simp -implicitDefEqProofs only [f_slices_stableCmpFunc_int_q1, go_sem, hf, wpa_eff h54, insF]
    refine wpk_loop (fun m ρ cw'' => ρ = [(0, .nils), (1, .int .i64 0), (2, fx), (6, .int .i64 20)] ∧ cw'' = cw') 0 ⟨rfl, rfl⟩ ?_
    rintro m ρ cw' N ⟨rfl, rfl⟩ hN
    simp -implicitDefEqProofs only [f_slices_stableCmpFunc_int_q4, go_sem, hf2]
    exact hQ .nx _ (.inl rfl) rfl
  · cases h

end Go.Cs

/- prio: its order, whole. -/
namespace Go.Cs
variable {K : Nat → Ct} {Q : RE → Env → CW → Prop}

def rangeI (n : Nat) : List Int := (List.range n).map fun i : Nat => (i : Int)
theorem rangeI_succ (n : Nat) : rangeI (n + 1) = rangeI n ++ [(n : Int)] := by simp [rangeI, List.range_succ]
theorem rangeI_length (n : Nat) : (rangeI n).length = n := by simp [rangeI]
theorem rangeI_mem {n : Nat} {z : Int} (h : z ∈ rangeI n) : 0 ≤ z ∧ z < n := by
  simp only [rangeI, List.mem_map, List.mem_range] at h
  obtain ⟨i, hi, rfl⟩ := h
  omega
theorem rangeI_asc (n : Nat) : asc (rangeI n) := by
  unfold asc rangeI
  rw [List.pairwise_map]
  exact List.pairwise_lt_range.imp fun h => by omega

/-- prio.Sort. -/
def sortV (ks : List Key) : CV := if ks.length = 0 then .nils else .vec (ints (srt ks (rangeI ks.length))) ks.length false
def sortF : List CV → Option CV
  | [.nils] => some .nils
  | [.vec cs n _] => (keysOf cs).bind fun ks => if ks.length = n ∧ n ≤ 60 then some (sortV ks) else none
  | _ => none

theorem frz_ints {base : Nat} {cw : CW} {b n : Nat} {zs : List Int} (hb : base ≤ b) (hg : cw.get b = some (.cells (ints zs))) (hl : zs.length = n) : Frz base cw (.ref b 0 n 1) (.vec (ints zs) n false) := by
  refine .ref hb hg (by rw [ints_length]; omega) (by rw [ints_length]; omega) fun i c d _ hc hd => ?_
  rw [Nat.zero_add] at hc
  rw [hc] at hd; cases hd
  simp only [ints, List.getElem?_map, Option.map_eq_some_iff] at hc
  obtain ⟨z, _, rfl⟩ := hc
  exact .int _ _

set_option maxHeartbeats 2000000 in
theorem sort_runs (h30 : K 30 = effC sortStF) : ∀ args v, sortF args = some v → args.length = f_prio_Sort.np ∧ ∀ cw, Runs K f_prio_Sort args cw v := by
  have key : ∀ (a : CV) (ks : List Key) (n : Nat), ks.length = n → n ≤ 60 → (a = .nils ∧ ks = [] ∨ ∃ clip, a = .vec (keyCells ks) n clip) → ∀ cw, Runs K f_prio_Sort [a] cw (sortV ks) := by
    intro a ks n hln hn ha cw Q hQ
    have fin : ∀ (cw' : CW) c, Frz cw.next cw' c (sortV ks) → (∀ b, b < cw.next → cw'.get b = cw.get b) → Q .ret [(2, c)] cw' := fun cw' c hf hk => hQ .ret _ _ _ (.inr rfl) rfl hf hk
    clear hQ
    have hone : a.cells = [a] ∧ a.one = true := by rcases ha with ⟨rfl, _⟩ | ⟨clip, rfl⟩ <;> exact ⟨rfl, rfl⟩
    obtain ⟨B0, hB0⟩ : ∃ B0, cw.next = B0 := ⟨_, rfl⟩
    have body : ∀ cw1 : CW, cw1.next = B0 + 2 → cw1.get B0 = some (.cells [a]) → cw1.get (B0 + 1) = some (.cells [.fn 28 [] []]) → (∀ b, b < B0 → cw1.get b = cw.get b) →
        wpk K Q f_prio_Sort_q2 [] [(1, .ptr B0 0), (3, .ptr (B0 + 1) 0), (4, .nils)] cw1 := by
      intro cw1 hn1 hg0 hg1 hk1
      have loop : wpk K Q (.loop (.seq (.region [⟨some 9, .bin .lss (.t 8) (.t 7), none, []⟩] false (some [1, 3, 4, 7, 8, 9])) (.seq (.cond (.t 9) .skip (.exit 0)) f_prio_Sort_q1)))
          [.blk 0, .code (.seq (.region [⟨some 16, .mov (.t 4), none, []⟩, ⟨some 17, .mkfn 29 [] [.t 3, .t 1], none, []⟩, ⟨some 18, .call 30 [.t 16, .t 17], none, []⟩] false (some [4])) (.seq (.region [⟨some 19, .mov (.t 4), none, []⟩, ⟨some 2, .mov (.t 19), none, []⟩] false (some [2])) .ret))]
          [(1, .ptr B0 0), (3, .ptr (B0 + 1) 0), (4, .nils), (7, .int .i64 n), (8, .int .i64 0)] cw1 := by
       refine wpk_loop (fun q ρ cw' => ∃ (i : Nat) (out : CV), q = n - i ∧ i ≤ n ∧ ρ = [(1, .ptr B0 0), (3, .ptr (B0 + 1) 0), (4, out), (7, .int .i64 n), (8, .int .i64 i)] ∧ (∀ b, b < B0 + 2 → cw'.get b = cw1.get b) ∧ B0 + 2 ≤ cw'.next ∧
        ((i = 0 ∧ out = .nils) ∨ ∃ b, 0 < i ∧ out = .ref b 0 i 1 ∧ cw'.get b = some (.cells (ints (rangeI i))) ∧ B0 + 2 ≤ b ∧ b < cw'.next)) n ⟨0, .nils, by omega, by omega, rfl, fun _ _ => rfl, by omega, .inl ⟨rfl, rfl⟩⟩ ?_
       rintro q ρ cw' N ⟨i, out, rfl, hi, rfl, hk, hnx, hout⟩ hN
       simp -implicitDefEqProofs only [f_prio_Sort_q1, go_sem]
       cases hlt : decide ((i : Int) < n)
       case false =>
         simp only [decide_eq_false_iff_not] at hlt
         have hin : i = n := by omega
         subst hin
         have hctx : ctxOf cw' (B0 + 1) B0 = some ks := by
           unfold ctxOf
           rw [hk _ (by omega), hk _ (by omega), hg1, hg0]
           rcases ha with ⟨rfl, rfl⟩ | ⟨clip, rfl⟩
           · rfl
           · simp only [keysOf_keyCells, Option.bind_some, hln, if_true]
         have hkk : ∀ b, b < cw.next → cw'.get b = cw.get b := fun b hb => by rw [hk b (by omega), hk1 b (by omega)]
         rcases hout with ⟨rfl, rfl⟩ | ⟨b, hpos, rfl, hgb, hb1, hb2⟩
         · simp -implicitDefEqProofs only [go_sem, wpa_eff h30, sortStF]
           refine fin _ _ ?_ hkk
           rw [sortV, if_pos (by omega)]
           exact .nils
         · have hs : sortStF [.ref b 0 i 1, .fn 29 [] [.ptr (B0 + 1) 0, .ptr B0 0]] cw' = some (.tup [], cw'.set b (.cells (ints (srt ks (rangeI i))))) := by
             simp only [sortStF, datOf_of hgb (rangeI_length i), hctx, Option.bind_some]
             rw [if_pos ⟨by omega, by omega, hn, fun z hz => by rw [hln]; exact rangeI_mem hz, rangeI_asc i⟩]
           simp -implicitDefEqProofs only [go_sem, wpa_eff h30, hs]
           refine fin _ _ ?_ fun b' hb' => ?_
           · rw [sortV, if_neg (by omega), hln]
             exact frz_ints (by omega) (by simp only [go_sem]) (by rw [srt_length, rangeI_length])
           · rw [set_old (by omega)]; exact hkk b' hb'
       simp only [decide_eq_true_eq] at hlt
       have hlim : (i : Nat) + 1 ≤ lim := by
         have : lim = 68719476736 := by decide
         omega
       have hlim1 : (1 : Nat) ≤ lim := by decide
       have w1 : IntKind.wrap .i64 ((i : Int) + 1) = ((i + 1 : Nat) : Int) := by rw [wrap_i64 (by omega) (by omega)]; omega
       rcases hout with ⟨rfl, rfl⟩ | ⟨b, hpos, rfl, hgb, hb1, hb2⟩
       · simp -implicitDefEqProofs only [go_sem, hlim1, w1]
         refine hN (n - 1) _ _ (by omega) ⟨1, _, rfl, by omega, rfl, fun b' hb' => ?_, by simp only [go_sem]; omega, .inr ⟨cw'.next, by omega, rfl, ?_, by omega, by simp only [go_sem]; omega⟩⟩
         · rw [push_old (by omega)]; exact hk b' hb'
         · simp only [go_sem]; rfl
       · have hil : (ints (rangeI i)).length = i := by rw [ints_length, rangeI_length]
         have hle : ¬ (i + 1 ≤ i) := by omega
         simp -implicitDefEqProofs only [go_sem, hgb, hil, hle, hlim, w1, ne_eq, not_true_eq_false]
         refine hN (n - (i + 1)) _ _ (by omega) ⟨i + 1, _, rfl, by omega, rfl, fun b' hb' => ?_, by simp only [go_sem]; omega, .inr ⟨cw'.next, by omega, rfl, ?_, by omega, by simp only [go_sem]; omega⟩⟩
         · rw [push_old (by simp only [go_sem]; omega), kill_old (by omega)]; exact hk b' hb'
         · simp only [go_sem]
           rw [rangeI_succ]
           simp [ints]
      rcases ha with ⟨rfl, rfl⟩ | ⟨clip, rfl⟩
      · simp at hln
        subst hln
        simp -implicitDefEqProofs only [f_prio_Sort_q2, go_sem, hg0]
        exact loop
      · simp -implicitDefEqProofs only [f_prio_Sort_q2, go_sem, hg0]
        exact loop
    have hb := body (((cw.push (.cells [a])).push (.cells [.nilf])).set (B0 + 1) (.cells [.fn 28 [] []])) (by simp only [go_sem, hB0]) (by simp only [go_sem, hB0]) (by simp only [go_sem]) (fun b hb => by
      rw [set_old (by omega), push_old (by simp only [go_sem]; omega), push_old (by omega)])
    clear body
    rcases ha with ⟨rfl, rfl⟩ | ⟨clip, rfl⟩
    all_goals
      simp -implicitDefEqProofs only [f_prio_Sort, go_sem, hB0]
      exact hb
  intro args v h
  unfold sortF at h
  split at h
  · cases h
    exact ⟨rfl, key _ [] 0 rfl (by omega) (.inl ⟨rfl, rfl⟩)⟩
  · rename_i cs n clip
    simp only [Option.bind_eq_some_iff] at h
    obtain ⟨ks, hks, h⟩ := h
    split at h
    case isFalse => cases h
    rename_i hc
    cases h
    rw [keysOf_spec hks]
    exact ⟨rfl, key _ ks n hc.1 hc.2 (.inr ⟨clip, rfl⟩)⟩
  · cases h

/-! ## What the document says -/
theorem rcheck_runs : ∀ args v, checkF args = some v → args.length = f_footmanref38_Check.np ∧ ∀ cw, Runs K f_footmanref38_Check args cw v := by
  intro args v h
  unfold checkF at h
  split at h
  · rename_i u st
    cases h
    refine ⟨rfl, fun cw Q hQ => ?_⟩
    have fin : ∀ (n : Int), n = checkM u → Q .ret [(2, .int .i64 n)] (cw.push (.cells [.int .i64 u, .bool st])) := by
      rintro n rfl
      exact hQ .ret _ _ _ (.inr rfl) rfl (.int _ _) (fun b hb => push_old (by omega))
    clear hQ
    simp only [f_footmanref38_Check, go_sem]
    cases h1 : decide (u < 0) <;> simp only [go_sem]
    · cases h2 : decide (u > 7) <;> simp only [go_sem] <;> refine fin _ ?_ <;> simp only [decide_eq_true_eq, decide_eq_false_iff_not] at h1 h2 <;> unfold checkM
      · rw [if_neg (by omega)]
      · rw [if_pos (by omega)]
    · refine fin _ ?_
      simp only [decide_eq_true_eq] at h1
      rw [checkM, if_pos (.inl h1)]
  · cases h

theorem rusual_runs : ∀ args v, usualF args = some v → args.length = f_footmanref38_Usual.np ∧ ∀ cw, Runs K f_footmanref38_Usual args cw v := by
  intro args v h
  unfold usualF at h
  split at h
  · cases h
    refine ⟨rfl, fun cw Q hQ => ?_⟩
    simp only [f_footmanref38_Usual, go_sem]
    refine hQ .ret _ _ (.agg [.int .i64 3, .bool false]) (.inr rfl) ?_ (frz_plain rfl) fun b hb => ?_
    · simp [resV, resAll, resOne, f_footmanref38_Usual, go_sem]
    · rw [set_old (by omega), push_old (by omega)]
  · cases h

theorem rless_runs : ∀ args v, lessF args = some v → args.length = f_footmanref38_Less.np ∧ ∀ cw, Runs K f_footmanref38_Less args cw v := by
  intro args r h
  unfold lessF at h
  split at h
  · rename_i u s v t
    cases h
    refine ⟨rfl, fun cw Q hQ => ?_⟩
    have fin : ∀ (cw' : CW) n, n = decide (cmpI (u, s) (v, t) < 0) → (∀ b, b < cw.next → cw'.get b = cw.get b) → Q .ret [(4, .bool n)] cw' := by
      rintro cw' n rfl hk
      exact hQ .ret _ _ _ (.inr rfl) rfl (.bool _) hk
    clear hQ
    have hk : ∀ o1 o2, ∀ b, b < cw.next → ((cw.push o1).push o2).get b = cw.get b := fun o1 o2 b hb => by rw [push_old (by simp only [go_sem]; omega), push_old (by omega)]
    simp -implicitDefEqProofs only [f_footmanref38_Less, go_sem, not_beq']
    cases h1 : (u == v) <;> simp -implicitDefEqProofs only [go_sem]
    · have h1' : ¬ u = v := by simpa using h1
      refine fin _ _ ?_ (hk _ _)
      by_cases h2 : u < v <;> simp [cmpI, h1', h2]
    · have h1' : u = v := by simpa using h1
      cases s <;> cases t <;> simp -implicitDefEqProofs only [go_sem] <;> refine fin _ _ ?_ (hk _ _) <;> simp [cmpI, h1']
  · cases h

end Go.Cs
