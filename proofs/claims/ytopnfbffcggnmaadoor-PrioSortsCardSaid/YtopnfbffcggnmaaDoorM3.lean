/- Parts: CsAny, CsMulti, CsWp, CsFn, CsExec, CsTac, CsLib, PrioFns. -/
import Derived.Test.YtopnfbffcggnmaaDoorM2
import Derived.IntWalk
/- Regions whose order Go does not fix. -/
namespace Go.Cs
open Go.RowKit (Below)
variable {P : Program} {fid : FuncId → Option Nat} {N : Nat} {w0 : World} {X : Cx} {cw : CW} {w : World} {ρ : Env} {a : Act} {K : Nat → Ct} {pure : Nat → Bool} {G : Nat → World → Prop}

def maskOf (acc : List Nat) (as : List Nat) : Nat := as.foldl (fun m k => m ||| (1 <<< k) ||| acc.getD k 0) 0

def drawGo (pure : Nat → Bool) (prev : List RO) (acc : List Nat) : List RO → Bool
  | [] => true
  | r :: l => r.after.all (fun k => decide (k < prev.length)) && (prev.zipIdx.all fun x => (maskOf acc r.after).testBit x.2 || indep pure x.1 r) &&
    drawGo pure (prev ++ [r]) (acc ++ [maskOf acc r.after]) l

/-- May a region's operations be told in the text's order? -/
def drawOk (pure : Nat → Bool) (l : List RO) : Bool := drawGo pure [] [] l

inductive Anc (full : List RO) : Nat → Nat → Prop
  | one {i j : Nat} {r : RO} : full[i]? = some r → j ∈ r.after → Anc full i j
  | more {i j k : Nat} {r : RO} : full[i]? = some r → k ∈ r.after → Anc full k j → Anc full i j

theorem anc_listed {full : List RO} {L : Nat → Prop} (down : ∀ i r, full[i]? = some r → L i → ∀ k ∈ r.after, L k) {i j : Nat} (h : Anc full i j) :
    (∀ r, full[i]? = some r → ∀ k ∈ r.after, L k) → L j := by
  induction h with
  | one hr hj => exact fun hi => hi _ hr _ hj
  | more hr hk _ ih => exact fun hi => ih fun r hr' => down _ r hr' (hi _ hr _ hk)

theorem maskOf_spec {acc as : List Nat} {j : Nat} (h : (maskOf acc as).testBit j = true) : j ∈ as ∨ ∃ k ∈ as, (acc.getD k 0).testBit j = true := by
  have key : ∀ (as : List Nat) (m : Nat), (as.foldl (fun m k => m ||| (1 <<< k) ||| acc.getD k 0) m).testBit j = true → m.testBit j = true ∨ j ∈ as ∨ ∃ k ∈ as, (acc.getD k 0).testBit j = true := by
    intro as
    induction as with
    | nil => intro m h; exact .inl h
    | cons k as ih =>
      intro m h
      rcases ih _ h with h | h | ⟨k', h1, h2⟩
      · rw [Nat.testBit_or, Nat.testBit_or, Bool.or_eq_true, Bool.or_eq_true] at h
        rcases h with (h | h) | h
        · exact .inl h
        · rw [Nat.testBit_shiftLeft, Bool.and_eq_true] at h
          have : j - k = 0 := by
            have := h.2
            rcases Nat.eq_zero_or_pos (j - k) with h0 | h0
            · exact h0
            · rw [Nat.testBit_one_eq_true_iff_self_eq_zero] at this; omega
          have hj : k ≤ j := by simpa using h.1
          have : j = k := by omega
          subst this
          exact .inr (.inl (List.mem_cons_self ..))
        · exact .inr (.inr ⟨k, List.mem_cons_self .., h⟩)
      · exact .inr (.inl (List.mem_cons_of_mem _ h))
      · exact .inr (.inr ⟨k', List.mem_cons_of_mem _ h1, h2⟩)
  rcases key as 0 h with h | h
  · simp at h
  · exact h

theorem drawGo_spec {full : List RO} : ∀ (l prev : List RO) (acc : List Nat), full = prev ++ l → acc.length = prev.length → (∀ i j, (acc.getD i 0).testBit j = true → Anc full i j) →
    drawGo pure prev acc l = true → ∀ i r, l[i]? = some r → (∀ k ∈ r.after, k < prev.length + i) ∧ ∀ j x, full[j]? = some x → j < prev.length + i → Anc full (prev.length + i) j ∨ indep pure x r = true
  | [], prev, acc, _, _, _, _, i, r, hr => by simp at hr
  | r0 :: l, prev, acc, hf, hl, ha, h, i, r, hr => by
    simp only [drawGo, Bool.and_eq_true] at h
    obtain ⟨⟨h1, h2⟩, h3⟩ := h
    have hat : full[prev.length]? = some r0 := by rw [hf]; simp
    have hanc : ∀ j, (maskOf acc r0.after).testBit j = true → Anc full prev.length j := by
      intro j hj
      rcases maskOf_spec hj with hj | ⟨k, hk, hj⟩
      · exact .one hat hj
      · exact .more hat hk (ha _ _ hj)
    cases i with
    | zero =>
      simp only [List.getElem?_cons_zero, Option.some.injEq] at hr
      subst hr
      refine ⟨fun k hk => by simpa using List.all_eq_true.1 h1 k hk, fun j x hx hj => ?_⟩
      have hj' : j < prev.length := hj
      have hx' : prev[j]? = some x := by rw [← hx, hf, List.getElem?_append_left hj']
      have := List.all_eq_true.1 h2 (x, j) (by rw [List.mem_zipIdx_iff_getElem?]; exact hx')
      rw [Bool.or_eq_true] at this
      rcases this with h | h
      · exact .inl (hanc j h)
      · exact .inr h
    | succ i =>
      simp only [List.getElem?_cons_succ] at hr
      have := drawGo_spec (full := full) l (prev ++ [r0]) (acc ++ [maskOf acc r0.after]) (by rw [hf]; simp) (by simp [hl]) (fun i j hj => ?_) h3 i r hr
      · have e : (prev ++ [r0]).length + i = prev.length + (i + 1) := by simp; omega
        rw [e] at this
        exact this
      · rw [List.getD_eq_getElem?_getD, List.getElem?_append] at hj
        split at hj
        · exact ha i j (by rw [List.getD_eq_getElem?_getD]; exact hj)
        · rename_i hi
          rcases Nat.lt_or_ge (i - acc.length) 1 with h0 | h0
          · have : i = prev.length := by omega
            subst this
            rw [hl, Nat.sub_self] at hj
            exact hanc j (by simpa using hj)
          · rw [List.getElem?_eq_none (by simpa using h0)] at hj
            simp at hj

theorem getD_tf {l : Array Bool} {k : Nat} (h : k < l.size) : l.getD k true = l.getD k false := by simp [Array.getD, h]

theorem keep_eq {ρ ρ' : Env} (h : EnvEq ρ ρ') (l : List Nat) : ρ.keep (some l) = ρ'.keep (some l) := by
  simp only [Env.keep]
  congr 1
  funext t
  rw [h t]

/-- In any order. -/
theorem region_any (hK : KSound P fid G K) (hG : G N w0) (hKO : KOk K pure) {own : List Nat} {n : Nat} {ops : Array Oper} {X0 : Cx} {w1 : World} {Q : RE → Env → CW → Prop} {live : List Nat} {l : List RO}
    (hl : ∀ (i : Nat) (o : Oper), ops[i]? = some o → ∃ r : RO, l[i]? = some r ∧ OpR P fid own n ops true o r) (hsz : l.length = ops.size)
    (hd : ∀ i r, l[i]? = some r → (∀ k ∈ r.after, k < i) ∧ ∀ j x, l[j]? = some x → j < i → Anc l i j ∨ indep pure x r = true) :
    ∀ (fuel : Nat) {listed : Array Bool} {js : List Nat} {X : Cx} {cw : CW} {w : World} {ρ : Env} {a : Act}, js.length ≤ fuel → listed.size = ops.size →
      js = (List.range ops.size).filter (fun i => !listed.getD i true) → (∀ i r, l[i]? = some r → listed.getD i false = true → ∀ k ∈ r.after, listed.getD k false = true) →
      St fid N w0 X0 w1 n X cw w ρ a → wpl K (js.map fun i => (l[i]?).getD default) ρ cw (fun ρ' cw' => Q .nx (ρ'.keep (some live)) cw') →
      wpAny P .any ops (Res fid N w0 X0 w1 n Q) fuel listed a w := by
  have hQ : ∀ ρ1 ρ2 cw, EnvEq ρ1 ρ2 → (fun ρ' cw' => Q .nx (ρ'.keep (some live)) cw') ρ1 cw → (fun ρ' cw' => Q .nx (ρ'.keep (some live)) cw') ρ2 cw := by
    intro ρ1 ρ2 cw he h
    show Q .nx (ρ2.keep (some live)) cw
    rw [← keep_eq he]
    exact h
  have hready : ∀ (listed : Array Bool) (i : Nat), listed.size = ops.size → (i ∈ Region.ready .any ops listed ↔ i < ops.size ∧ listed.getD i true = false ∧ ∀ r, l[i]? = some r → ∀ k ∈ r.after, listed.getD k false = true) := by
    intro listed i hs
    simp only [Region.ready, List.mem_filter, List.mem_range, Bool.and_eq_true, Bool.not_eq_true']
    constructor
    · rintro ⟨h1, h2, h3⟩
      refine ⟨h1, h2, fun r hr k hk => ?_⟩
      obtain ⟨r', hr', hor⟩ := hl i ops[i] (Array.getElem?_eq_getElem h1)
      rw [hr] at hr'; cases hr'
      rw [Array.getElem?_eq_getElem h1] at h3
      simp only [Option.map_some, Option.getD_some] at h3
      rw [hor.after] at hk
      simp only [resAfter, if_true, List.mem_map, List.mem_filter] at hk
      obtain ⟨e, ⟨he1, he2⟩, rfl⟩ := hk
      have := Array.all_eq_true_iff_forall_mem.1 h3 e (by simpa using he1)
      simpa [he2] using this
    · rintro ⟨h1, h2, h3⟩
      refine ⟨h1, h2, ?_⟩
      obtain ⟨r, hr, hor⟩ := hl i ops[i] (Array.getElem?_eq_getElem h1)
      rw [Array.getElem?_eq_getElem h1]
      simp only [Option.map_some, Option.getD_some]
      refine Array.all_eq_true_iff_forall_mem.2 fun e he => ?_
      cases hb : Region.binds .any e
      · rfl
      · have := h3 r hr e.on (by rw [hor.after]; simp only [resAfter, if_true, List.mem_map, List.mem_filter]; exact ⟨e, ⟨by simpa using he, hb⟩, rfl⟩)
        simp [this]
  intro fuel
  have hnone : ∀ {listed : Array Bool} {js : List Nat} {X : Cx} {cw : CW} {w : World} {ρ : Env} {a : Act}, listed.size = ops.size →
      js = (List.range ops.size).filter (fun i => !listed.getD i true) → 
      St fid N w0 X0 w1 n X cw w ρ a → wpl K (js.map fun i => (l[i]?).getD default) ρ cw (fun ρ' cw' => Q .nx (ρ'.keep (some live)) cw') → Region.ready .any ops listed = [] → Res fid N w0 X0 w1 n Q .normal a w := by
    intro listed js X cw w ρ a hls hjs hS hw hr
    cases hj : js with
    | nil =>
      rw [hj] at hw
      exact ⟨.nx, X, _, cw, rfl, ⟨hS.sim, hS.ext, hS.env.keep (some live), hS.size, hS.nodef⟩, hw⟩
    | cons i rest =>
      exfalso
      have hsort : js.Pairwise (· < ·) := by rw [hjs]; exact List.Pairwise.filter _ List.pairwise_lt_range
      have hi : i ∈ js := by rw [hj]; exact List.mem_cons_self ..
      have hi' := hi
      rw [hjs, List.mem_filter, List.mem_range] at hi'
      have hmem : i ∈ Region.ready .any ops listed := by
        refine (hready listed i hls).2 ⟨hi'.1, by simpa using hi'.2, fun r hr k hk => ?_⟩
        have hki := (hd i r hr).1 k hk
        refine Classical.byContradiction fun hn => ?_
        have hkj : k ∈ js := by
          rw [hjs, List.mem_filter, List.mem_range]
          refine ⟨by omega, ?_⟩
          have hk' : k < listed.size := by omega
          rw [getD_tf hk']
          simpa using hn
        rw [hj] at hkj hsort
        rcases List.mem_cons.1 hkj with rfl | hkr
        · omega
        · have := (List.pairwise_cons.1 hsort).1 k hkr; omega
      rw [hr] at hmem
      cases hmem
  induction fuel with
  | zero =>
    intro listed js X cw w ρ a hf hls hjs hdown hS hw
    have hj : js = [] := List.length_eq_zero_iff.1 (by omega)
    have hr : Region.ready .any ops listed = [] := by
      refine List.eq_nil_iff_forall_not_mem.2 fun i hi => ?_
      obtain ⟨h1, h2, _⟩ := (hready listed i hls).1 hi
      have : i ∈ js := by rw [hjs, List.mem_filter, List.mem_range]; exact ⟨h1, by simp [h2]⟩
      rw [hj] at this; cases this
    exact ⟨hr, hnone hls hjs hS hw hr⟩
  | succ fuel ih =>
    intro listed js X cw w ρ a hf hls hjs hdown hS hw
    refine ⟨fun hr => hnone hls hjs hS hw hr, fun i hi => ?_⟩
    obtain ⟨h1, h2, h3⟩ := (hready listed i hls).1 hi
    have hij : i ∈ js := by rw [hjs, List.mem_filter, List.mem_range]; exact ⟨h1, by simp [h2]⟩
    obtain ⟨pre, post, hpp⟩ := List.append_of_mem hij
    have hsort : js.Pairwise (· < ·) := by rw [hjs]; exact List.Pairwise.filter _ List.pairwise_lt_range
    obtain ⟨r, hr, hor⟩ := hl i ops[i] (Array.getElem?_eq_getElem h1)
    have hlt : ∀ j ∈ pre, j < i := by
      rw [hpp, List.pairwise_append] at hsort
      exact fun j hj => hsort.2.2 j hj i (List.mem_cons_self ..)
    have hgt : ∀ j ∈ post, i < j := by
      rw [hpp, List.pairwise_append, List.pairwise_cons] at hsort
      exact fun j hj => hsort.2.1.1 j hj
    have hin : ∀ x ∈ pre.map (fun i => (l[i]?).getD default), indep pure x r = true := by
      intro x hx
      obtain ⟨j, hj, rfl⟩ := List.mem_map.1 hx
      have hji := hlt j hj
      have hjs' : j ∈ js := by rw [hpp]; exact List.mem_append_left _ hj
      rw [hjs, List.mem_filter, List.mem_range] at hjs'
      have hlj : l[j]? = some l[j] := List.getElem?_eq_getElem (by omega)
      rw [hlj]
      simp only [Option.getD_some]
      rcases (hd i r hr).2 j _ hlj hji with h | h
      · exfalso
        have := anc_listed (L := fun k => listed.getD k false = true) hdown h h3
        have hk' : j < listed.size := by omega
        rw [getD_tf hk', this] at hjs'
        simp at hjs'
      · exact h
    rw [hpp] at hw
    simp only [List.map_append, List.map_cons] at hw
    have hri : (l[i]?).getD default = r := by rw [hr]; rfl
    rw [hri] at hw
    have hw2 := wpl_cons.1 (wpl_front hKO hQ _ hin hw)
    simp only [Go.wpOp, Array.getElem?_eq_getElem h1]
    refine opG_ok hK hG hor hS hw2 fun c cw' X' w' a' hq hs => ?_
    have hget : ∀ (k : Nat) (b : Bool), (listed.setIfInBounds i true).getD k b = if k = i then true else listed.getD k b := by
      intro k b
      simp only [Array.getD_eq_getD_getElem?, Array.getElem?_setIfInBounds]
      by_cases hk : k = i
      · subst hk
        simp [hls, h1]
      · rw [if_neg (fun h => hk h.symm), if_neg hk]
    refine ih (js := pre ++ post) (by rw [hpp] at hf; simp at hf ⊢; omega) (by simp [hls]) ?_ ?_ hs (by rw [List.map_append]; exact hq)
    · have e1 : (fun k => !(listed.setIfInBounds i true).getD k true) = fun k => decide (k ≠ i) && (!listed.getD k true) := by
        funext k
        rw [hget]
        by_cases hk : k = i
        · simp [hk]
        · simp [hk]
      rw [e1, ← List.filter_filter, ← hjs, hpp, List.filter_append, List.filter_cons]
      rw [List.filter_eq_self.2 (fun j hj => by have := hlt j hj; simp; omega), List.filter_eq_self.2 (fun j hj => by have := hgt j hj; simp; omega)]
      simp
    · intro k rk hrk hk m hm
      have hkm : listed.getD m false = true := by
        rw [hget] at hk
        by_cases hki : k = i
        · rw [hki, hr] at hrk; cases hrk
          exact h3 _ hr m hm
        · rw [if_neg hki] at hk
          exact hdown k rk hrk hk m hm
      rw [hget, hkm]
      simp

end Go.Cs

/- Regions whose order Go does not fix, told in more than one order. -/
namespace Go.Cs
open Go.RowKit (Below)
variable {P : Program} {fid : FuncId → Option Nat} {N : Nat} {w0 : World} {X : Cx} {cw : CW} {w : World} {ρ : Env} {a : Act} {K : Nat → Ct} {pure : Nat → Bool} {G : Nat → World → Prop}

theorem wpOp_conj (hKO : KOk K pure) {o : ROp} {ρ : Env} {cw : CW} {ι : Type} (i0 : ι) {Q : ι → CV → CW → Prop} (h : ∀ i, wpOp K o ρ cw (Q i)) : wpOp K o ρ cw fun v cw' => ∀ i, Q i v cw' := by
  unfold wpOp at *
  split
  · obtain ⟨vs, h1, _⟩ := h i0
    refine ⟨vs, h1, hKO.conj _ ι _ _ _ i0 fun i => ?_⟩
    obtain ⟨vs', h2, h3⟩ := h i
    rw [h1] at h2; cases h2; exact h3
  · obtain ⟨g, f, c, vs, h1, h2, _⟩ := h i0
    refine ⟨g, f, c, vs, h1, h2, hKO.conj _ ι _ _ _ i0 fun i => ?_⟩
    obtain ⟨g', f', c', vs', h3, h4, h5⟩ := h i
    rw [h1] at h3; cases h3
    rw [h2] at h4; cases h4; exact h5
  · rename_i hc hv
    have h' : ∀ i, ∃ r, stepOp o (ev ρ) cw = some r ∧ Q i r.1 r.2 := by
      intro i
      have := h i
      split at this
      · exact absurd rfl (hc _ _)
      · exact absurd rfl (hv _ _)
      · exact this
    obtain ⟨r, h1, _⟩ := h' i0
    refine ⟨r, h1, fun i => ?_⟩
    obtain ⟨r', h2, h3⟩ := h' i
    rw [h1] at h2; cases h2; exact h3

theorem wpG_conj (hKO : KOk K pure) {o : RO} {ρ : Env} {cw : CW} {ι : Type} (i0 : ι) {Q : ι → CV → CW → Prop} (h : ∀ i, wpG K o ρ cw (Q i)) : wpG K o ρ cw fun v cw' => ∀ i, Q i v cw' := by
  obtain ⟨b, hb, _⟩ := h i0
  refine ⟨b, hb, ?_⟩
  have h' : ∀ i, if b then wpOp K o.op ρ cw (Q i) else Q i (.tup []) cw := by
    intro i
    obtain ⟨b', hb', h⟩ := h i
    rw [hb] at hb'; cases hb'; exact h
  cases b
  · exact fun i => by simpa using h' i
  · exact wpOp_conj hKO i0 fun i => by simpa using h' i

def atR (l : List RO) (i : Nat) : RO := (l[i]?).getD default

/-- An order without one operation that could as well come first. -/
def takeFront (pure : Nat → Bool) (l : List RO) (y : Nat) : List Nat → Option (List Nat)
  | [] => none
  | i :: r => if i = y then some r else if indep pure (atR l i) (atR l y) then (takeFront pure l y r).map (i :: ·) else none

/-- Do some orders stand for all that Go may take? -/
def cover (pure : Nat → Bool) (l : List RO) : Nat → List Nat → List (List Nat) → Bool
  | 0, rem, os => rem.isEmpty && os.any List.isEmpty
  | n + 1, rem, os => !os.isEmpty && if rem.isEmpty then os.any List.isEmpty else rem.all fun y => if (atR l y).after.all (fun k => !rem.contains k) then cover pure l n (rem.filter (· != y)) (os.filterMap (takeFront pure l y)) else true

def multiOk (pure : Nat → Bool) (l : List RO) (os : List (List Nat)) : Bool :=
  (l.zipIdx.all fun x => x.1.after.all fun k => decide (k < x.2)) && cover pure l l.length (List.range l.length) os

theorem cover_ne {l : List RO} {n : Nat} {rem : List Nat} {os : List (List Nat)} (h : cover pure l n rem os = true) : ∃ o, o ∈ os := by
  cases os with
  | nil => cases n <;> simp [cover] at h
  | cons o os => exact ⟨o, List.mem_cons_self ..⟩

theorem takeFront_spec {l : List RO} {y : Nat} : ∀ {o o' : List Nat}, takeFront pure l y o = some o' → ∃ pre post, o = pre ++ y :: post ∧ o' = pre ++ post ∧ ∀ i ∈ pre, indep pure (atR l i) (atR l y) = true
  | [], o', h => by cases h
  | i :: r, o', h => by
    simp only [takeFront] at h
    split at h
    · rename_i hi
      cases h
      exact ⟨[], r, by simp [hi], rfl, by simp⟩
    · split at h
      · rename_i hind
        obtain ⟨o2, h2, rfl⟩ := Option.map_eq_some_iff.1 h
        obtain ⟨pre, post, rfl, rfl, h3⟩ := takeFront_spec h2
        refine ⟨i :: pre, post, rfl, rfl, fun k hk => ?_⟩
        rcases List.mem_cons.1 hk with rfl | hk
        · exact hind
        · exact h3 k hk
      · cases h

theorem ready_iff {own : List Nat} {n : Nat} {ops : Array Oper} {l : List RO}
    (hl : ∀ (i : Nat) (o : Oper), ops[i]? = some o → ∃ r : RO, l[i]? = some r ∧ OpR P fid own n ops true o r) (listed : Array Bool) (i : Nat) (hs : listed.size = ops.size) : (i ∈ Region.ready .any ops listed ↔ i < ops.size ∧ listed.getD i true = false ∧ ∀ r, l[i]? = some r → ∀ k ∈ r.after, listed.getD k false = true) := by
    simp only [Region.ready, List.mem_filter, List.mem_range, Bool.and_eq_true, Bool.not_eq_true']
    constructor
    · rintro ⟨h1, h2, h3⟩
      refine ⟨h1, h2, fun r hr k hk => ?_⟩
      obtain ⟨r', hr', hor⟩ := hl i ops[i] (Array.getElem?_eq_getElem h1)
      rw [hr] at hr'; cases hr'
      rw [Array.getElem?_eq_getElem h1] at h3
      simp only [Option.map_some, Option.getD_some] at h3
      rw [hor.after] at hk
      simp only [resAfter, if_true, List.mem_map, List.mem_filter] at hk
      obtain ⟨e, ⟨he1, he2⟩, rfl⟩ := hk
      have := Array.all_eq_true_iff_forall_mem.1 h3 e (by simpa using he1)
      simpa [he2] using this
    · rintro ⟨h1, h2, h3⟩
      refine ⟨h1, h2, ?_⟩
      obtain ⟨r, hr, hor⟩ := hl i ops[i] (Array.getElem?_eq_getElem h1)
      rw [Array.getElem?_eq_getElem h1]
      simp only [Option.map_some, Option.getD_some]
      refine Array.all_eq_true_iff_forall_mem.2 fun e he => ?_
      cases hb : Region.binds .any e
      · rfl
      · have := h3 r hr e.on (by rw [hor.after]; simp only [resAfter, if_true, List.mem_map, List.mem_filter]; exact ⟨e, ⟨by simpa using he, hb⟩, rfl⟩)
        simp [this]

theorem region_multi (hK : KSound P fid G K) (hG : G N w0) (hKO : KOk K pure) {own : List Nat} {n : Nat} {ops : Array Oper} {X0 : Cx} {w1 : World} {Q : RE → Env → CW → Prop} {live : List Nat} {l : List RO}
    (hl : ∀ (i : Nat) (o : Oper), ops[i]? = some o → ∃ r : RO, l[i]? = some r ∧ OpR P fid own n ops true o r) (hsz : l.length = ops.size) (ha : ∀ (i : Nat) (r : RO), l[i]? = some r → ∀ k ∈ r.after, k < i) :
    ∀ (fuel : Nat) {listed : Array Bool} {os : List (List Nat)} {X : Cx} {cw : CW} {w : World} {ρ : Env} {a : Act}, listed.size = ops.size →
      cover pure l fuel ((List.range ops.size).filter (fun i => !listed.getD i true)) os = true →
      St fid N w0 X0 w1 n X cw w ρ a → (∀ o ∈ os, wpl K (o.map (atR l)) ρ cw (fun ρ' cw' => Q .nx (ρ'.keep (some live)) cw')) →
      wpAny P .any ops (Res fid N w0 X0 w1 n Q) fuel listed a w := by
  have hQ : ∀ ρ1 ρ2 cw, EnvEq ρ1 ρ2 → (fun ρ' cw' => Q .nx (ρ'.keep (some live)) cw') ρ1 cw → (fun ρ' cw' => Q .nx (ρ'.keep (some live)) cw') ρ2 cw := by
    intro ρ1 ρ2 cw he h
    show Q .nx (ρ2.keep (some live)) cw
    rw [← keep_eq he]
    exact h
  have hend : ∀ {os : List (List Nat)} {X : Cx} {cw : CW} {w : World} {ρ : Env} {a : Act}, os.any List.isEmpty = true → St fid N w0 X0 w1 n X cw w ρ a →
      (∀ o ∈ os, wpl K (o.map (atR l)) ρ cw (fun ρ' cw' => Q .nx (ρ'.keep (some live)) cw')) → Res fid N w0 X0 w1 n Q .normal a w := by
    intro os X cw w ρ a he hS hw
    obtain ⟨o, ho, he⟩ := List.any_eq_true.1 he
    have := hw o ho
    rw [List.isEmpty_iff.1 he] at this
    exact ⟨.nx, X, _, cw, rfl, ⟨hS.sim, hS.ext, hS.env.keep (some live), hS.size, hS.nodef⟩, this⟩
  have hfirst : ∀ {listed : Array Bool}, listed.size = ops.size → Region.ready .any ops listed = [] → (List.range ops.size).filter (fun i => !listed.getD i true) = [] := by
    intro listed hls hr
    cases hj : (List.range ops.size).filter (fun i => !listed.getD i true) with
    | nil => rfl
    | cons i rest =>
      exfalso
      have hsort : ((List.range ops.size).filter (fun i => !listed.getD i true)).Pairwise (· < ·) := List.Pairwise.filter _ List.pairwise_lt_range
      have hi : i ∈ (List.range ops.size).filter (fun i => !listed.getD i true) := by rw [hj]; exact List.mem_cons_self ..
      have hi' := hi
      rw [List.mem_filter, List.mem_range] at hi'
      have hmem : i ∈ Region.ready .any ops listed := by
        refine (ready_iff hl listed i hls).2 ⟨hi'.1, by simpa using hi'.2, fun r hr k hk => ?_⟩
        have hki := ha i r hr k hk
        refine Classical.byContradiction fun hn => ?_
        have hkj : k ∈ (List.range ops.size).filter (fun i => !listed.getD i true) := by
          rw [List.mem_filter, List.mem_range]
          refine ⟨by omega, ?_⟩
          have hk' : k < listed.size := by omega
          rw [getD_tf hk']
          simpa using hn
        rw [hj] at hkj hsort
        rcases List.mem_cons.1 hkj with rfl | hkr
        · omega
        · have := (List.pairwise_cons.1 hsort).1 k hkr; omega
      rw [hr] at hmem
      cases hmem
  intro fuel
  induction fuel with
  | zero =>
    intro listed os X cw w ρ a hls hc hS hw
    simp only [cover, Bool.and_eq_true] at hc
    have hj := List.isEmpty_iff.1 hc.1
    have hr : Region.ready .any ops listed = [] := by
      refine List.eq_nil_iff_forall_not_mem.2 fun i hi => ?_
      obtain ⟨h1, h2, _⟩ := (ready_iff hl listed i hls).1 hi
      have : i ∈ (List.range ops.size).filter (fun i => !listed.getD i true) := by rw [List.mem_filter, List.mem_range]; exact ⟨h1, by simp [h2]⟩
      rw [hj] at this; cases this
    exact ⟨hr, hend hc.2 hS hw⟩
  | succ fuel ih =>
    intro listed os X cw w ρ a hls hc hS hw
    simp only [cover, Bool.and_eq_true] at hc
    replace hc := hc.2
    refine ⟨fun hr => ?_, fun y hy => ?_⟩
    · rw [hfirst hls hr] at hc
      exact hend (by simpa using hc) hS hw
    · obtain ⟨h1, h2, h3⟩ := (ready_iff hl listed y hls).1 hy
      have hyj : y ∈ (List.range ops.size).filter (fun i => !listed.getD i true) := by rw [List.mem_filter, List.mem_range]; exact ⟨h1, by simp [h2]⟩
      rw [if_neg (by intro he; rw [List.isEmpty_iff.1 he] at hyj; cases hyj)] at hc
      have hcy := List.all_eq_true.1 hc y hyj
      obtain ⟨r, hr, hor⟩ := hl y ops[y] (Array.getElem?_eq_getElem h1)
      have hat : atR l y = r := by simp [atR, hr]
      rw [hat, if_pos (by
        refine List.all_eq_true.2 fun k hk => ?_
        have hk1 := h3 r hr k hk
        have hk2 := ha y r hr k hk
        have hk' : k < listed.size := by omega
        simp only [Bool.not_eq_true', List.contains_eq_mem, decide_eq_false_iff_not, List.mem_filter, not_and]
        intro _
        rw [getD_tf hk', hk1]; simp)] at hcy
      simp only [Go.wpOp, Array.getElem?_eq_getElem h1]
      have hfam : wpG K r ρ cw fun c cw' => ∀ o' ∈ os.filterMap (takeFront pure l y), wpl K (o'.map (atR l)) (ρ.put r.dst c) cw' (fun ρ' cw' => Q .nx (ρ'.keep (some live)) cw') := by
        obtain ⟨o1, ho1⟩ := cover_ne hcy
        have h := wpG_conj hKO (ι := { o' : List Nat // o' ∈ os.filterMap (takeFront pure l y) }) (o := r) (ρ := ρ) (cw := cw) ⟨o1, ho1⟩
          (Q := fun o' c cw' => wpl K (o'.1.map (atR l)) (ρ.put r.dst c) cw' (fun ρ' cw' => Q .nx (ρ'.keep (some live)) cw')) (fun o' => by
            obtain ⟨o, ho, hto⟩ := List.mem_filterMap.1 o'.2
            obtain ⟨pre, post, rfl, he, hind⟩ := takeFront_spec hto
            have h1 := hw _ ho
            rw [List.map_append, List.map_cons, hat] at h1
            have h2 := wpl_cons.1 (wpl_front hKO hQ _ (fun x hx => by
              obtain ⟨i, hi, rfl⟩ := List.mem_map.1 hx
              have := hind i hi
              rwa [hat] at this) h1)
            rw [he, List.map_append]
            exact h2)
        exact wpG_mono hKO (fun v cw' hv o' ho' => hv ⟨o', ho'⟩) h
      refine opG_ok hK hG hor hS hfam fun c cw' X' w' a' hq hs => ?_
      have hget : ∀ (k : Nat) (b : Bool), (listed.setIfInBounds y true).getD k b = if k = y then true else listed.getD k b := by
        intro k b
        simp only [Array.getD_eq_getD_getElem?, Array.getElem?_setIfInBounds]
        by_cases hk : k = y
        · subst hk
          simp [hls, h1]
        · rw [if_neg (fun h => hk h.symm), if_neg hk]
      refine ih (by simp [hls]) ?_ hs hq
      have e1 : (fun k => !(listed.setIfInBounds y true).getD k true) = fun k => decide (k ≠ y) && (!listed.getD k true) := by
        funext k
        rw [hget]
        by_cases hk : k = y
        · simp [hk]
        · simp [hk]
      rw [e1, ← List.filter_filter]
      have e2 : (fun k => decide (k ≠ y)) = (fun k : Nat => k != y) := by funext k; by_cases hk : k = y <;> simp [hk]
      rw [e2]
      exact hcy

end Go.Cs

/- From the canonical machine's weakest precondition to Go's: code. -/
namespace Go.Cs
open Go.RowKit (Below)
variable {P : Program} {fid : FuncId → Option Nat} {N : Nat} {w0 : World} {X : Cx} {cw : CW} {w : World} {ρ : Env} {a : Act} {K : Nat → Ct} {pure : Nat → Bool} {G : Nat → World → Prop}

def RC.ok (pure : Nat → Bool) : RC → Bool
  | .region ops draw live => if draw then live.isSome && drawOk pure ops else true
  | .seq a b => a.ok pure && b.ok pure
  | .cond _ a b => a.ok pure && b.ok pure
  | .block _ c => c.ok pure
  | .loop c => c.ok pure
  | .scope c => c.ok pure
  | .multi ops orders _ => multiOk pure ops orders
  | _ => true

theorem Res.mono {X0 : Cx} {w1 : World} {n : Nat} {Q Q' : RE → Env → CW → Prop} {e : Exit} {a : Act} {w : World} (h : Res fid N w0 X0 w1 n Q e a w) (hq : ∀ re ρ cw, Q re ρ cw → Q' re ρ cw) : Res fid N w0 X0 w1 n Q' e a w := by
  obtain ⟨re, X, ρ, cw, h1, h2, h3⟩ := h
  exact ⟨re, X, ρ, cw, h1, h2, hq _ _ _ h3⟩

theorem wpc_sound (hm : P.follows .mixedOrders = true) (hK : KSound P fid G K) (hG : G N w0) (hKO : KOk K pure) {own : List Nat} {n : Nat} {X0 : Cx} {w1 : World} :
    ∀ (ir : RC) (c : Code), resCode P fid own n c = some ir.strip → ir.ok pure = true → ∀ {X : Cx} {cw : CW} {w : World} {ρ : Env} {a : Act} {Q : RE → Env → CW → Prop},
      wpc K ir ρ cw Q → St fid N w0 X0 w1 n X cw w ρ a → c.wp P (Res fid N w0 X0 w1 n Q) a w := by
  intro ir
  induction ir with
  | skip =>
    intro c hr _ X cw w ρ a Q hw hS
    have : c = .skip := by cases c <;> simp [resCode, RC.strip, Option.bind_eq_some_iff] at hr ⊢
    subst this
    exact wp_skip ⟨.nx, X, ρ, cw, rfl, hS, hw⟩
  | label l =>
    intro c hr _ X cw w ρ a Q hw hS
    have : ∃ l, c = .label l := by cases c <;> simp [resCode, RC.strip, Option.bind_eq_some_iff] at hr ⊢
    obtain ⟨l', rfl⟩ := this
    exact wp_label ⟨.nx, X, ρ, cw, rfl, hS, hw⟩
  | exit id =>
    intro c hr _ X cw w ρ a Q hw hS
    have : c = .exit id := by cases c <;> simp [resCode, RC.strip, Option.bind_eq_some_iff] at hr ⊢ ; exact hr
    subst this
    exact wp_exit ⟨.exit id, X, ρ, cw, rfl, hS, hw⟩
  | ret =>
    intro c hr _ X cw w ρ a Q hw hS
    have : c = .ret := by cases c <;> simp [resCode, RC.strip, Option.bind_eq_some_iff] at hr ⊢
    subst this
    exact wp_ret ⟨.ret, X, ρ, cw, rfl, hS, hw⟩
  | region l draw live =>
    intro c hr hok X cw w ρ a Q hw hS
    have : ∃ id ops, c = .region id ops draw ∧ resOps P fid own n ops draw ops.toList = some l := by
      cases c <;> simp [resCode, RC.strip, Option.bind_eq_some_iff] at hr ⊢
      obtain ⟨_, h, rfl, rfl⟩ := hr
      exact ⟨_, _, ⟨rfl, rfl, rfl⟩, h⟩
    obtain ⟨id, ops, rfl, hres⟩ := this
    obtain ⟨h1, h2⟩ := resOps_spec hres
    have hl : ∀ (i : Nat) (o : Oper), ops[i]? = some o → ∃ r : RO, l[i]? = some r ∧ OpR P fid own n ops draw o r := fun i o ho => h2 i o (by simpa using ho)
    have hsz : l.length = ops.size := by simpa using h1
    cases draw with
    | false =>
      refine wp_region ?_
      rw [List.range_eq_range']
      exact region_text hK hG hl hsz ops.size 0 (by omega) hS (by simpa [wpc] using hw)
    | true =>
      simp only [RC.ok, if_true, Bool.and_eq_true] at hok
      obtain ⟨live, rfl⟩ := Option.isSome_iff_exists.1 hok.1
      refine wp_region_any hm (region_any (live := live) hK hG hKO hl hsz (fun i r hr => ?_) ops.size (js := List.range ops.size) (by simp) (by simp) ?_ ?_ hS.drew ?_)
      · have := drawGo_spec (full := l) l [] [] rfl rfl (by simp) hok.2 i r hr
        simpa using this
      · symm
        rw [List.filter_eq_self]
        intro i hi
        have hi := List.mem_range.1 hi
        simp [Array.getD, hi]
      · intro i r _ hf
        simp [Array.getD_eq_getD_getElem?, Array.getElem?_replicate] at hf
        split at hf <;> simp at hf
      · have e : (List.range ops.size).map (fun i => (l[i]?).getD default) = l := by
          refine List.ext_getElem (by simp [hsz]) fun i h1 h2 => ?_
          simp [List.getElem?_eq_getElem h2]
        rw [e]
        exact hw
  | multi l orders live =>
    intro c hr hok X cw w ρ a Q hw hS
    have : ∃ id ops, c = .region id ops true ∧ resOps P fid own n ops true ops.toList = some l := by
      cases c <;> simp [resCode, RC.strip, Option.bind_eq_some_iff] at hr ⊢
      obtain ⟨_, h, rfl, rfl⟩ := hr
      exact ⟨_, _, ⟨rfl, rfl, rfl⟩, h⟩
    obtain ⟨id, ops, rfl, hres⟩ := this
    obtain ⟨h1, h2⟩ := resOps_spec hres
    have hl : ∀ (i : Nat) (o : Oper), ops[i]? = some o → ∃ r : RO, l[i]? = some r ∧ OpR P fid own n ops true o r := fun i o ho => h2 i o (by simpa using ho)
    have hsz : l.length = ops.size := by simpa using h1
    simp only [RC.ok, multiOk, Bool.and_eq_true] at hok
    refine wp_region_any hm (region_multi (live := live) (os := orders) hK hG hKO hl hsz (fun i r hr k hk => ?_) ops.size (by simp) ?_ hS.drew hw)
    · have := List.all_eq_true.1 hok.1 (r, i) (by rw [List.mem_zipIdx_iff_getElem?]; exact hr)
      simpa using List.all_eq_true.1 this k hk
    · have e : (List.range ops.size).filter (fun i => !(Array.replicate ops.size false).getD i true) = List.range ops.size := by
        rw [List.filter_eq_self]
        intro i hi
        have hi := List.mem_range.1 hi
        simp [Array.getD, hi]
      rw [e, ← hsz]
      exact hok.2
  | seq x y ihx ihy =>
    intro c hr hok X cw w ρ a Q hw hS
    simp only [RC.ok, Bool.and_eq_true] at hok
    have : ∃ cx cy, c = .seq cx cy ∧ resCode P fid own n cx = some x.strip ∧ resCode P fid own n cy = some y.strip := by
      cases c <;> simp [resCode, RC.strip, Option.bind_eq_some_iff] at hr ⊢
      exact ⟨_, _, ⟨rfl, rfl⟩, hr⟩
    obtain ⟨cx, cy, rfl, h1, h2⟩ := this
    refine wp_seq (wp_mono (ihx cx h1 hok.1 hw hS) fun e a w h => ?_)
    obtain ⟨re, X, ρ, cw, he, hs, hq⟩ := h
    cases re with
    | nx => cases he; exact ihy cy h2 hok.2 hq hs
    | exit i => cases he; exact ⟨.exit i, X, ρ, cw, rfl, hs, hq⟩
    | ret => cases he; exact ⟨.ret, X, ρ, cw, rfl, hs, hq⟩
  | cond x y z ihy ihz =>
    intro c hr hok X cw w ρ a Q hw hS
    simp only [RC.ok, Bool.and_eq_true] at hok
    have : ∃ cx cy cz, c = .cond cx cy cz ∧ rx fid cx = some x ∧ resCode P fid own n cy = some y.strip ∧ resCode P fid own n cz = some z.strip := by
      cases c <;> simp [resCode, RC.strip, Option.bind_eq_some_iff] at hr ⊢
      obtain ⟨_, h1, _, h2, _, h3, rfl, rfl, rfl⟩ := hr
      exact ⟨_, _, _, ⟨rfl, rfl, rfl⟩, h1, h2, h3⟩
    obtain ⟨cx, cy, cz, rfl, h1, h2, h3⟩ := this
    obtain ⟨t, ht, hw⟩ := hw
    refine wp_cond (t := t) (rx_vr h1 ht hS.env).bool_inv ?_
    cases t
    · exact ihz cz h3 hok.2 (by simpa using hw) hS
    · exact ihy cy h2 hok.1 (by simpa using hw) hS
  | block id b ih =>
    intro c hr hok X cw w ρ a Q hw hS
    have : ∃ cb, c = .block id cb ∧ resCode P fid own n cb = some b.strip := by
      cases c <;> simp [resCode, RC.strip, Option.bind_eq_some_iff] at hr ⊢
      obtain ⟨h1, h0⟩ := hr
      exact ⟨_, ⟨h0, rfl⟩, h1⟩
    obtain ⟨cb, rfl, h1⟩ := this
    refine wp_block (wp_mono (ih cb h1 hok hw hS) fun e a w h => ?_)
    obtain ⟨re, X, ρ, cw, he, hs, hq⟩ := h
    cases re with
    | nx => cases he; exact ⟨.nx, X, ρ, cw, rfl, hs, hq⟩
    | exit i =>
      cases he
      simp only [blkQ] at hq
      simp only [exOf, Exit.inBlock]
      by_cases hi : i = id
      · rw [if_pos hi] at hq ⊢
        exact ⟨.nx, X, ρ, cw, rfl, hs, hq⟩
      · rw [if_neg hi] at hq ⊢
        exact ⟨.exit i, X, ρ, cw, rfl, hs, hq⟩
    | ret => cases he; exact ⟨.ret, X, ρ, cw, rfl, hs, hq⟩
  | loop b ih =>
    intro c hr hok X cw w ρ a Q hw hS
    have : ∃ cb, c = .loop cb ∧ resCode P fid own n cb = some b.strip := by
      cases c <;> simp [resCode, RC.strip, Option.bind_eq_some_iff] at hr ⊢
      exact hr
    obtain ⟨cb, rfl, h1⟩ := this
    obtain ⟨m, hw⟩ := hw
    refine wp_loop_rounds m ?_
    clear hr
    induction m generalizing X cw w ρ a with
    | zero => exact hw.elim
    | succ m ihm =>
      rw [rounds_succ]
      refine wp_mono (ih cb h1 hok hw hS) fun e a w h => ?_
      obtain ⟨re, X, ρ, cw, he, hs, hq⟩ := h
      cases re with
      | nx => cases he; exact ihm hs hq
      | exit i => cases he; exact ⟨.exit i, X, ρ, cw, rfl, hs, hq⟩
      | ret => cases he; exact ⟨.ret, X, ρ, cw, rfl, hs, hq⟩
  | scope b ih =>
    intro c hr hok X cw w ρ a Q hw hS
    have : ∃ cb, c = .scope cb ∧ resCode P fid own n cb = some b.strip := by
      cases c <;> simp [resCode, RC.strip, Option.bind_eq_some_iff] at hr ⊢
      exact hr
    obtain ⟨cb, rfl, h1⟩ := this
    refine wp_scope_straight (wp_mono (ih cb h1 hok hw hS) fun e a w h => ?_)
    obtain ⟨re, X, ρ, cw, he, hs, hq⟩ := h
    cases re <;> cases he <;> exact ⟨_, X, ρ, cw, rfl, hs, hq⟩

end Go.Cs

/- From the canonical machine's weakest precondition to Go's: functions. -/
namespace Go.Cs
open Go.RowKit (Below)
variable {P : Program} {fid : FuncId → Option Nat} {N : Nat} {w0 : World} {X : Cx} {cw : CW} {w : World} {ρ : Env} {a : Act} {K : Nat → Ct} {pure : Nat → Bool} {G : Nat → World → Prop}

def RF.strip (f : RF) : RF := { f with body := f.body.strip }

theorem numb_get : ∀ {args : List CV} {k t : Nat} {c : CV}, (numb k args).get t = some c → k ≤ t ∧ args[t - k]? = some c
  | [], k, t, c, h => by cases h
  | x :: args, k, t, c, h => by
    simp only [numb, Env.get] at h
    by_cases hk : k = t
    · subst hk
      simp only [if_true, Option.some.injEq] at h
      subst h
      simp
    · rw [if_neg hk] at h
      obtain ⟨h1, h2⟩ := numb_get h
      refine ⟨by omega, ?_⟩
      have : t - k = (t - (k + 1)) + 1 := by omega
      rw [this, List.getElem?_cons_succ]
      exact h2

/-- Without the blocks from 'base' on. -/
def Cx.drop (X : Cx) (base : Nat) : Cx := { M := fun b => if b < base then X.M b else none, I := fun r i => X.I r i ∨ ∃ b m, base ≤ b ∧ X.M b = some m ∧ m.1 = r, nx := base }

theorem vr_drop {X0 : Cx} {w1 : World} {c : CV} {v : Value} (h : VR fid X w c v) : ∀ {v0 : Value}, VR fid X0 w1 c v0 → VR fid (X.drop X0.nx) w c v := by
  induction h with
  | int k n => intro v0 _; exact .int k n
  | bool b => intro v0 _; exact .bool b
  | str s => intro v0 _; exact .str s
  | nilp => intro v0 _; exact .nilp
  | nils => intro v0 _; exact .nils
  | nilm => intro v0 _; exact .nilm
  | nilf => intro v0 _; exact .nilf
  | nili => intro v0 _; exact .nili
  | agg hl h1 _ ih =>
    intro v0 h0
    cases h0 with
    | agg k1 k2 k3 => exact .agg hl h1 fun i c hc => ih i c hc (k3 i c hc)
  | tup hl _ ih =>
    intro v0 h0
    cases h0 with
    | tup k1 k3 => exact .tup hl fun i c hc => ih i c hc (k3 i c hc)
  | ptr hb hm =>
    intro v0 h0
    cases h0 with
    | ptr k1 k2 => exact .ptr k1 fun m h => hm m (by simpa [Cx.drop, k1] using h)
  | row h1 _ ih =>
    intro v0 h0
    cases h0 with
    | row k1 k2 => exact .row (fun i c hc => ⟨(h1 i c hc).1, .inl (h1 i c hc).2.1, (h1 i c hc).2.2⟩) fun i c hc => ih i c hc (k2 i c hc)
  | vec hn hcl h1 _ ih =>
    intro v0 h0
    cases h0 with
    | vec _ _ k1 k2 => exact .vec hn hcl (fun i c hc => ⟨(h1 i c hc).1, .inl (h1 i c hc).2.1, (h1 i c hc).2.2⟩) fun i c hc => ih i c hc (k2 i c hc)
  | ref hb hn hm =>
    intro v0 h0
    cases h0 with
    | ref k1 _ _ => exact .ref k1 hn fun m h => hm m (by simpa [Cx.drop, k1] using h)
  | map hb hm =>
    intro v0 h0
    cases h0 with
    | map k1 _ => exact .map k1 fun m h => hm m (by simpa [Cx.drop, k1] using h)
  | fn hf h1 h2 _ _ ih1 ih2 =>
    intro v0 h0
    cases h0 with
    | fn _ _ _ k1 k2 => exact .fn hf h1 h2 (fun i c hc => ih1 i c hc (k1 i c hc)) (fun i c hc => ih2 i c hc (k2 i c hc))
  | ifc _ ih =>
    intro v0 h0
    cases h0 with
    | ifc k => exact .ifc (ih k)


theorem drop_sim {X0 : Cx} {cw0 : CW} {w1 : World} (h0 : Sim fid N w0 X0 cw0 w1) (h : Sim fid N w0 X cw w) (e : Ext X0 w1 X w) (hk : ∀ b, b < cw0.next → cw.get b = cw0.get b) :
    Sim fid N w0 (X.drop X0.nx) cw0 w ∧ Ext X0 w1 (X.drop X0.nx) w := by
  refine ⟨⟨h0.nx, ?_, ?_, ?_, ?_, fun r o hr => .inl (h.old r o hr), ?_, h.below, h.room⟩, Nat.le_refl _, ?_, fun r o hi => .inl (e.i r o hi), e.c⟩
  · intro b m hm
    simp only [Cx.drop] at hm
    split at hm
    · rename_i hb
      obtain ⟨o, ho⟩ := h.dom b m hm
      exact ⟨o, by rw [← hk b (by rw [← h0.nx]; exact hb)]; exact ho⟩
    · cases hm
  · intro b o ho
    obtain ⟨hb, m0, hm0, hor0⟩ := h0.blk b o ho
    have ho' : cw.get b = some o := by rw [hk b (by rw [← h0.nx]; exact hb)]; exact ho
    obtain ⟨_, m, hm, hor⟩ := h.blk b o ho'
    refine ⟨hb, m, by simp [Cx.drop, hb, hm], ?_⟩
    cases o with
    | cells cs =>
      obtain ⟨rcs, T, fr, k1, k2, k3, k4, k5⟩ := hor
      obtain ⟨rcs0, _, _, _, _, _, _, k0⟩ := hor0
      exact ⟨rcs, T, fr, k1, k2, k3, k4, fun i c hc => ⟨(k5 i c hc).1, vr_drop (k5 i c hc).2 (k0 i c hc).2⟩⟩
    | map es clock =>
      obtain ⟨res, k1, k2, k3⟩ := hor
      obtain ⟨res0, _, _, k0⟩ := hor0
      refine ⟨res, k1, k2, fun i e he => ?_⟩
      obtain ⟨r, r1, r2, r3, r4⟩ := k3 i e he
      obtain ⟨r', _, _, q3, q4⟩ := k0 i e he
      exact ⟨r, r1, r2, vr_drop r3 q3, vr_drop r4 q4⟩
  · intro b b' m m' hm hm'
    simp only [Cx.drop] at hm hm'
    split at hm <;> split at hm'
    · exact h.inj b b' m m' hm hm'
    all_goals first | cases hm | cases hm'
  · intro b m hm
    simp only [Cx.drop] at hm
    split at hm
    · rename_i hb
      obtain ⟨s1, s2⟩ := h.sep b m hm
      refine ⟨s1, fun o hi => ?_⟩
      rcases hi with hi | ⟨b', m', hb', hm', he⟩
      · exact s2 o hi
      · have := h.inj _ _ _ _ hm' hm he
        omega
    · cases hm
  · intro r o hi
    rcases hi with hi | ⟨b', m', hb', hm', rfl⟩
    · exact h.lt r o hi
    · obtain ⟨oo, ho⟩ := h.dom b' m' hm'
      obtain ⟨_, m2, hm2, hor⟩ := h.blk b' oo ho
      rw [hm'] at hm2; cases hm2
      exact hor.at
  · intro b m hb hm
    simp only [Cx.drop, hb, if_true] at hm
    exact e.m b m hb hm

theorem run_mapM_list {α : Type} {f : α → Sem Value} {Q : CV → Value → Prop} : ∀ {xs : List α} {cs : List CV}, xs.length = cs.length →
    (∀ (i : Nat) (x : α) (c : CV), xs[i]? = some x → cs[i]? = some c → ∃ v, (f x).run P w = .ok v w ∧ Q c v) →
    ∃ vs : List Value, (xs.mapM f).run P w = .ok vs w ∧ vs.length = cs.length ∧ ∀ (i : Nat) (c : CV), cs[i]? = some c → ∃ v, vs[i]? = some v ∧ Q c v
  | [], cs, hl, h => by
    have : cs = [] := List.length_eq_zero_iff.1 (by simpa using hl.symm)
    subst this
    exact ⟨[], by simp, rfl, by simp⟩
  | x :: xs, [], hl, h => by simp at hl
  | x :: xs, c :: cs, hl, h => by
    obtain ⟨v, h1, h2⟩ := h 0 x c rfl rfl
    obtain ⟨vs, k1, k2, k3⟩ := run_mapM_list (f := f) (Q := Q) (xs := xs) (cs := cs) (by simpa using hl) fun i x c hx hc => h (i + 1) x c (by simpa using hx) (by simpa using hc)
    refine ⟨v :: vs, ?_, by simp [k2], fun i c' hc => ?_⟩
    · rw [List.mapM_cons]
      simp [h1, k1]
    · cases i with
      | zero =>
        simp only [List.getElem?_cons_zero, Option.some.injEq] at hc ⊢
        subst hc
        exact ⟨v, rfl, h2⟩
      | succ i => simpa using k3 i c' (by simpa using hc)

theorem resRes_spec : ∀ {rv : List ResultVar} {rs : List RR} {vs : List CV}, resRes P rv = some rs → resAll cw ρ rs = some vs → rv.length = vs.length ∧
    ∀ (i : Nat) (x : ResultVar) (c : CV), rv[i]? = some x → vs[i]? = some c → (∃ t, x = .tmp t ∧ ρ.get t = some c) ∨
      (∃ t ty q b off cs, x = .cell t ty ∧ tyOf P ty = some q ∧ ρ.get t = some (.ptr b off) ∧ cw.get b = some (.cells cs) ∧ ldc q.1 q.2 cs off = some c)
  | [], rs, vs, h, he => by cases h; cases he; simp
  | x :: rv, rs, vs, h, he => by
    have key : ∀ (r : RR) (rs' : List RR), resRes P rv = some rs' → rs = r :: rs' → (∀ c, resOne cw ρ r = some c → (∃ t, x = .tmp t ∧ ρ.get t = some c) ∨
        (∃ t ty q b off cs, x = .cell t ty ∧ tyOf P ty = some q ∧ ρ.get t = some (.ptr b off) ∧ cw.get b = some (.cells cs) ∧ ldc q.1 q.2 cs off = some c)) → (x :: rv).length = vs.length ∧
        ∀ (i : Nat) (x' : ResultVar) (c : CV), (x :: rv)[i]? = some x' → vs[i]? = some c → (∃ t, x' = .tmp t ∧ ρ.get t = some c) ∨
        (∃ t ty q b off cs, x' = .cell t ty ∧ tyOf P ty = some q ∧ ρ.get t = some (.ptr b off) ∧ cw.get b = some (.cells cs) ∧ ldc q.1 q.2 cs off = some c) := by
      rintro r rs' hrs rfl hone
      simp only [resAll, Option.bind_eq_some_iff] at he
      obtain ⟨c, hc, cs, hcs, he⟩ := he
      cases he
      obtain ⟨k1, k2⟩ := resRes_spec hrs hcs
      refine ⟨by simp [k1], fun i x' c' hx hc' => ?_⟩
      cases i with
      | zero =>
        simp only [List.getElem?_cons_zero, Option.some.injEq] at hx hc'
        subst hx; subst hc'
        exact hone _ hc
      | succ i => exact k2 i x' c' (by simpa using hx) (by simpa using hc')
    cases x with
    | tmp t =>
      simp only [resRes, Option.bind_eq_some_iff] at h
      obtain ⟨rs', h1, h⟩ := h
      cases h
      exact key _ _ h1 rfl fun c hc => .inl ⟨t, rfl, hc⟩
    | cell t ty =>
      simp only [resRes, Option.bind_eq_some_iff] at h
      obtain ⟨q, hq, rs', h1, h⟩ := h
      cases h
      refine key _ _ h1 rfl fun c hc => .inr ?_
      simp only [resOne] at hc
      split at hc
      · rename_i b off hb
        split at hc
        · rename_i cs hcs
          exact ⟨t, ty, q, b, off, cs, rfl, hq, hb, hcs, hc⟩
        · cases hc
      · cases hc

theorem results_run {fn : Func} {rs : List RR} {c : CV} {n : Nat} {X0 : Cx} {w1 : World} (hr : resRes P fn.results.toList = some rs) (hS : St fid N w0 X0 w1 n X cw w ρ a) (hv : resV cw ρ rs = some c) :
    ∃ v, (results fn a.tmps).run P w = .ok v w ∧ VR fid X w c v := by
  simp only [resV, Option.bind_eq_some_iff] at hv
  obtain ⟨vs, hvs, hv⟩ := hv
  obtain ⟨k1, k2⟩ := resRes_spec hr hvs
  obtain ⟨us, u1, u2, u3⟩ := run_mapM_list (P := P) (w := w) (f := fun x : ResultVar => match x with
    | .tmp t => (Pure.pure (a.tmps.getD t undef) : Sem Value)
    | .cell b t => do loadVar t (← asAddr (a.tmps.getD b undef))) (Q := fun c v => VR fid X w c v) k1 (fun i x c hx hc => by
      rcases k2 i x c hx hc with ⟨t, rfl, ht⟩ | ⟨t, ty, q, b, off, cs, rfl, hq, ht, hb, hl⟩
      · exact ⟨_, by simp, (hS.env t c ht).2⟩
      · obtain ⟨m, hm, hv, hrow⟩ := (addr_ok hS.sim (hS.env t _ ht).2).1 b off cs rfl hb
        obtain ⟨u, h1, h2⟩ := load_run (P := P) hq hrow hl
        refine ⟨u, ?_, h2⟩
        simp only [hv]
        simpa [asAddr] using h1)
  have hrun : (results fn a.tmps).run P w = .ok (if h : us.toArray.size = 1 then us.toArray[0] else .tuple us.toArray) w := by
    unfold results
    rw [Array.mapM_eq_mapM_toList]
    simp only [Sem.run_bind, Sem.run_pure, Sem.run_map]
    generalize hm : Sem.run P (List.mapM _ fn.results.toList) w = r
    have hm2 : r = .ok us w := hm.symm.trans u1
    rw [hm2]
    rfl
  refine ⟨_, hrun, ?_⟩
  split at hv
  · cases hv
    obtain ⟨v, h1, h2⟩ := u3 0 _ rfl
    have hs : us.toArray.size = 1 := by simpa using u2
    rw [dif_pos hs]
    have : us = [v] := by
      match us, u2, h1 with
      | [x], _, h => simp at h; rw [h]
    subst this
    exact h2
  · rename_i hne
    cases hv
    have hs : ¬ us.toArray.size = 1 := by
      intro h
      have : vs.length = 1 := by rw [← u2]; simpa using h
      obtain ⟨x, hx⟩ := List.length_eq_one_iff.1 this
      exact hne x hx
    rw [dif_neg hs]
    refine .tup (by simpa using u2) fun i c hc => ?_
    obtain ⟨v, h1, h2⟩ := u3 i c hc
    simpa [Array.getD_eq_getD_getElem?, h1] using h2

/-- A function: its contract holds if the canonical machine's weakest precondition says so. -/
theorem sound_of (hm : P.follows .mixedOrders = true) (hK : KSound P fid G K) (hKO : KOk K pure) {f : FuncId} {fn : Func} {ir : RF} {own : List Nat} {C : Ct} (hf : P.funcs[f]? = some fn)
    (hname : fn.name ≠ "runtime.NumGoroutine") (hres : resF P fid own fn = some ir.strip) (hok : ir.body.ok pure = true) (hC : ∀ args cw Q, C args cw Q → wpF K ir args cw Q) : Sound P fid G f C := by
  simp only [resF, Option.bind_eq_some_iff] at hres
  obtain ⟨body, hb, b, hrb, rs, hrs, hres⟩ := hres
  split at hres
  · rename_i hle
    have hres' := Option.some.inj hres
    have e1 : fn.params.size + fn.nfree = ir.np := congrArg RF.np hres'
    have e2 : fn.ntmps = ir.nt := congrArg RF.nt hres'
    have e3 : rs = ir.rs := congrArg RF.rs hres'
    have e4 : b = ir.body.strip := congrArg RF.body hres'
    subst e3 e4
    refine ⟨⟨fn, hf, hname, by simp [hb]⟩, fun args cw Q hc N w0 X w rargs hG hS hA => ?_⟩
    obtain ⟨hlen, hw⟩ := hC args cw Q hc
    refine calls_of_wp hf hb (wp_mono (wpc_sound (X0 := X) (w1 := w) hm hK hG hKO ir.body body hrb hok hw ⟨hS, Ext.refl _ _, ?_, ?_, rfl⟩) ?_)
    · intro t c ht
      obtain ⟨_, hat⟩ := numb_get ht
      simp only [Nat.sub_zero] at hat
      obtain ⟨hlt, _⟩ := List.getElem?_eq_some_iff.1 hat
      have hsz := hA.1
      refine ⟨by simp; omega, ?_⟩
      have := hA.2 t c hat
      simp only [Array.getD_eq_getD_getElem?] at this ⊢
      rw [Array.getElem?_append_left (by omega)]
      exact this
    · have hsz := hA.1
      simp
      omega
    · rintro e a' w' ⟨re, X', ρ, cw', he, hs, hq⟩
      obtain ⟨hre, v, u, cw'', hv, hleave, hQ⟩ := hq
      obtain ⟨rv, r1, r2⟩ := results_run hrs hs hv
      have fin : ∃ c v' cw' X', Ending.returned rv = .returned v' ∧ Q c cw' ∧ Sim fid N w0 X' cw' w' ∧ Ext X w X' w' ∧ VR fid X' w' c v' := by
        cases hleave with
        | stay => exact ⟨_, _, _, X', rfl, hQ, hs.sim, hs.ext, r2⟩
        | gone hfz hkeep =>
          obtain ⟨s, ex⟩ := drop_sim hS hs.sim hs.ext hkeep
          refine ⟨_, _, _, _, rfl, hQ, s, ex, ?_⟩
          have := frz_vr hs.sim (by rw [hS.nx]; exact hfz) r2 hs.ext.nx
          exact this
      rcases hre with rfl | rfl <;> cases he
      · exact ⟨hs.nodef, rv, r1, fin⟩
      · exact ⟨hs.nodef, rv, r1, fin⟩
  · cases hres

end Go.Cs

/- Running the canonical machine: what a closed call gives is reckoned, not proved by hand. -/
namespace Go.Cs
variable {P : Program} {fid : FuncId → Option Nat} {pure : Nat → Bool} {Gl : Nat → World → Prop}

abbrev CF := Nat → List CV → CW → Option (CV × CW)

def opX (F : CF) (o : ROp) (ρ : Env) (cw : CW) : Option (CV × CW) :=
  match o with
  | .call g xs => (evs (ev ρ) xs).bind fun vs => F g vs cw
  | .callv f xs => match ev ρ f with
    | some (.fn g first caps) => (evs (ev ρ) xs).bind fun vs => F g (first ++ vs ++ caps) cw
    | _ => none
  | o => stepOp o (ev ρ) cw

def opsX (F : CF) : List RO → Env → CW → Option (Env × CW)
  | [], ρ, cw => some (ρ, cw)
  | o :: r, ρ, cw => match wantedR o.guard ρ with
    | some true => match opX F o.op ρ cw with
      | some (v, cw') => opsX F r (ρ.put o.dst v) cw'
      | none => none
    | some false => opsX F r (ρ.put o.dst (.tup [])) cw
    | none => none

def loopX (body : Env → CW → Option (RE × Env × CW)) : Nat → Env → CW → Option (RE × Env × CW)
  | 0, _, _ => none
  | n + 1, ρ, cw => match body ρ cw with
    | some (.nx, ρ', cw') => loopX body n ρ' cw'
    | r => r

def codeX (F : CF) (n : Nat) : RC → Env → CW → Option (RE × Env × CW)
  | .skip, ρ, cw => some (.nx, ρ, cw)
  | .region ops _ live, ρ, cw => match opsX F ops ρ cw with
    | some (ρ', cw') => some (.nx, ρ'.keep live, cw')
    | none => none
  | .seq a b, ρ, cw => match codeX F n a ρ cw with
    | some (.nx, ρ', cw') => codeX F n b ρ' cw'
    | r => r
  | .cond x a b, ρ, cw => match ev ρ x with
    | some (.bool true) => codeX F n a ρ cw
    | some (.bool false) => codeX F n b ρ cw
    | _ => none
  | .block id c, ρ, cw => match codeX F n c ρ cw with
    | some (.exit i, ρ', cw') => if i = id then some (.nx, ρ', cw') else some (.exit i, ρ', cw')
    | r => r
  | .loop c, ρ, cw => loopX (codeX F n c) n ρ cw
  | .exit id, ρ, cw => some (.exit id, ρ, cw)
  | .ret, ρ, cw => some (.ret, ρ, cw)
  | .scope c, ρ, cw => codeX F n c ρ cw
  | .label _, ρ, cw => some (.nx, ρ, cw)
  | .multi _ _ _, _, _ => none

/-- The contract of what a run gives. -/
def ctX (F : CF) : Nat → Ct := fun g args cw Q => ∃ r, F g args cw = some r ∧ Q r.1 r.2

def fnX (F : CF) (n : Nat) (f : RF) (args : List CV) (cw : CW) : Option (CV × CW) :=
  if args.length = f.np then
    match codeX F n f.body (numb 0 args) cw with
    | some (.nx, ρ, cw') => (resV cw' ρ f.rs).bind fun v => some (v, cw')
    | some (.ret, ρ, cw') => (resV cw' ρ f.rs).bind fun v => some (v, cw')
    | _ => none
  else none

/-- G: the functions that are run; L: those that are told. -/
def callX (G : Nat → Option RF) (L : CF) : Nat → CF
  | 0 => fun g args cw => L g args cw
  | n + 1 => fun g args cw => match G g with
    | some f => fnX (callX G L n) n f args cw
    | none => L g args cw

theorem opX_wp {F : CF} {o : ROp} {ρ : Env} {cw : CW} {r : CV × CW} {Q : CV → CW → Prop} (h : opX F o ρ cw = some r) (hq : Q r.1 r.2) : wpOp (ctX F) o ρ cw Q := by
  unfold opX at h
  unfold wpOp
  split at h
  · obtain ⟨vs, h1, h2⟩ := Option.bind_eq_some_iff.1 h
    exact ⟨vs, h1, r, h2, hq⟩
  · split at h
    · rename_i g first caps hf
      obtain ⟨vs, h1, h2⟩ := Option.bind_eq_some_iff.1 h
      exact ⟨g, first, caps, vs, hf, h1, r, h2, hq⟩
    · cases h
  · rename_i h1 h2
    split
    · exact absurd rfl (h1 _ _)
    · exact absurd rfl (h2 _ _)
    · exact ⟨r, h, hq⟩

theorem opsX_wp {F : CF} : ∀ {l : List RO} {ρ : Env} {cw : CW} {r : Env × CW} {Q : Env → CW → Prop}, opsX F l ρ cw = some r → Q r.1 r.2 → wpl (ctX F) l ρ cw Q
  | [], ρ, cw, r, Q, h, hq => by cases h; exact hq
  | o :: l, ρ, cw, r, Q, h, hq => by
    simp only [opsX] at h
    split at h
    · rename_i hw
      split at h
      · rename_i v cw' ho
        exact ⟨true, hw, opX_wp ho (opsX_wp h hq)⟩
      · cases h
    · rename_i hw
      exact ⟨false, hw, opsX_wp h hq⟩
    · cases h

theorem codeX_wp {F : CF} {n : Nat} : ∀ (c : RC) {ρ : Env} {cw : CW} {r : RE × Env × CW} {Q : RE → Env → CW → Prop}, codeX F n c ρ cw = some r → Q r.1 r.2.1 r.2.2 → wpc (ctX F) c ρ cw Q := by
  intro c
  induction c with
  | skip => intro ρ cw r Q h hq; cases h; exact hq
  | label l => intro ρ cw r Q h hq; cases h; exact hq
  | exit l => intro ρ cw r Q h hq; cases h; exact hq
  | ret => intro ρ cw r Q h hq; cases h; exact hq
  | region ops d live =>
    intro ρ cw r Q h hq
    simp only [codeX] at h
    split at h
    · rename_i ρ' cw' ho
      cases h
      exact opsX_wp ho hq
    · cases h
  | seq a b iha ihb =>
    intro ρ cw r Q h hq
    simp only [codeX] at h
    split at h
    · rename_i ρ' cw' ho
      exact iha ho (ihb h hq)
    · rename_i hne
      refine iha h ?_
      obtain ⟨e, ρ', cw'⟩ := r
      cases e with
      | nx => exact absurd h (hne _ _)
      | exit i => exact hq
      | ret => exact hq
  | cond x a b iha ihb =>
    intro ρ cw r Q h hq
    simp only [codeX] at h
    split at h
    · rename_i hx
      exact ⟨true, hx, iha h hq⟩
    · rename_i hx
      exact ⟨false, hx, ihb h hq⟩
    · cases h
  | block id b ih =>
    intro ρ cw r Q h hq
    simp only [codeX] at h
    split at h
    · rename_i i ρ' cw' ho
      refine ih ho ?_
      simp only [blkQ]
      split at h
      · rename_i hi
        cases h
        rw [if_pos hi]; exact hq
      · rename_i hi
        cases h
        rw [if_neg hi]; exact hq
    · rename_i hne
      refine ih h ?_
      obtain ⟨e, ρ', cw'⟩ := r
      cases e with
      | nx => exact hq
      | exit i => exact absurd h (hne _ _ _)
      | ret => exact hq
  | loop b ih =>
    intro ρ cw r Q h hq
    simp only [codeX] at h
    refine ⟨n, ?_⟩
    have key : ∀ m ρ cw, loopX (codeX F n b) m ρ cw = some r → loopN (wpc (ctX F) b) m ρ cw Q := by
      intro m
      induction m with
      | zero => intro ρ cw h; cases h
      | succ m ihm =>
        intro ρ cw h
        simp only [loopX] at h
        split at h
        · rename_i ρ' cw' ho
          exact ih ho (ihm _ _ h)
        · rename_i hne
          refine ih h ?_
          obtain ⟨e, ρ', cw'⟩ := r
          cases e with
          | nx => exact absurd h (hne _ _)
          | exit i => exact hq
          | ret => exact hq
    exact key n ρ cw h
  | scope b ih => intro ρ cw r Q h hq; exact ih h hq
  | multi ops orders live => intro ρ cw r Q h hq; cases h

theorem fnX_wp {F : CF} {n : Nat} {f : RF} {args : List CV} {cw : CW} {r : CV × CW} {Q : CV → CW → Prop} (h : fnX F n f args cw = some r) (hq : Q r.1 r.2) : wpF (ctX F) f args cw Q := by
  unfold fnX at h
  split at h
  · rename_i hl
    refine ⟨hl, ?_⟩
    split at h
    · rename_i ρ cw' hc
      obtain ⟨v, hv, h⟩ := Option.bind_eq_some_iff.1 h
      cases h
      exact codeX_wp _ hc ⟨.inl rfl, v, v, cw', hv, .stay, hq⟩
    · rename_i ρ cw' hc
      obtain ⟨v, hv, h⟩ := Option.bind_eq_some_iff.1 h
      cases h
      exact codeX_wp _ hc ⟨.inr rfl, v, v, cw', hv, .stay, hq⟩
    · cases h
  · cases h

theorem ctX_mono (F : CF) (g : Nat) : MonoC (ctX F g) := by
  rintro vs cw Q Q' h ⟨r, h1, h2⟩
  exact ⟨r, h1, h _ _ h2⟩
theorem ctX_feas (F : CF) (g : Nat) : FeasC (ctX F g) := by
  rintro vs cw Q ⟨r, h1, h2⟩
  exact ⟨_, _, h2⟩
theorem ctX_conj (F : CF) (g : Nat) : ConjC (ctX F g) := by
  intro ι vs cw Q i0 h
  obtain ⟨r, h1, _⟩ := h i0
  refine ⟨r, h1, fun i => ?_⟩
  obtain ⟨r', h2, h3⟩ := h i
  rw [h1] at h2; cases h2
  exact h3
theorem ctX_ok (F : CF) (pure : Nat → Bool) (h : ∀ g, pure g = true → ∃ L : List CV → Option CV, ∀ args cw, F g args cw = (L args).map fun v => (v, cw)) : KOk (ctX F) pure where
  mono := ctX_mono F
  feas := ctX_feas F
  conj := ctX_conj F
  pure := by
    intro g hg
    obtain ⟨L, hL⟩ := h g hg
    refine ⟨fun vs v => L vs = some v, fun vs v v' h1 h2 => Option.some.inj (h1.symm.trans h2), fun vs cw Q => ?_⟩
    constructor
    · rintro ⟨r, h1, h2⟩
      rw [hL] at h1
      obtain ⟨v, hv, rfl⟩ := Option.map_eq_some_iff.1 h1
      exact ⟨v, hv, h2⟩
    · rintro ⟨v, h1, h2⟩
      exact ⟨(v, cw), by rw [hL, h1]; rfl, h2⟩

/-- All that is run is sound, if all that is told is. -/
theorem callX_sound (hm : P.follows .mixedOrders = true) {G : Nat → Option RF} {L : CF}
    (hG : ∀ f g ir, fid f = some g → G g = some ir → ∃ fn own, P.funcs[f]? = some fn ∧ fn.name ≠ "runtime.NumGoroutine" ∧ resF P fid own fn = some ir.strip ∧ ir.body.ok pure = true)
    (hL : ∀ f g, fid f = some g → (∃ args cw r, L g args cw = some r) → Sound P fid Gl f (ctX L g))
    (hp : ∀ g, pure g = true → G g = none ∧ ∃ l : List CV → Option CV, ∀ args cw, L g args cw = (l args).map fun v => (v, cw)) :
    ∀ n, KSound P fid Gl (ctX (callX G L n)) := by
  intro n
  induction n with
  | zero =>
    rintro f g hf ⟨args, cw, Q, r, h1, h2⟩
    exact hL f g hf ⟨args, cw, r, h1⟩
  | succ n ih =>
    rintro f g hf ⟨args, cw, Q, r, h1, h2⟩
    cases hg : G g with
    | some ir =>
      obtain ⟨fn, own, k1, k2, k3, k4⟩ := hG f g ir hf hg
      refine sound_of (pure := pure) hm ih (ctX_ok _ _ fun g' hg' => ?_) k1 k2 k3 k4 ?_
      · obtain ⟨e1, l, e2⟩ := hp g' hg'
        refine ⟨l, fun args cw => ?_⟩
        cases n with
        | zero => exact e2 args cw
        | succ n => simp only [callX, e1]; exact e2 args cw
      · rintro args cw Q ⟨r, h1, h2⟩
        simp only [callX, hg] at h1
        exact fnX_wp h1 h2
    | none =>
      have e : ctX (callX G L (n + 1)) g = ctX L g := by
        funext args cw Q
        simp only [ctX, callX, hg]
      rw [e]
      simp only [callX, hg] at h1
      exact hL f g hf ⟨args, cw, r, h1⟩

end Go.Cs

/- How a weakest precondition of the canonical machine is reckoned: rules for the simplifier, which go from the front to the back; what is yet to come is told as data. -/
namespace Go.Cs

theorem wrap_i64 {n : Int} (h1 : -9223372036854775808 ≤ n) (h2 : n ≤ 9223372036854775807) : IntKind.wrap .i64 n = n := by
  rw [IntKind.wrap_i64]; omega

/-- What is yet to come. -/
inductive Fr where
  | code (c : RC)
  | blk (id : Nat)
  | hook (n : Env → CW → Prop)

def post (K : Nat → Ct) (Q : RE → Env → CW → Prop) : List Fr → RE → Env → CW → Prop
  | [] => Q
  | .code c :: s => seqQ (fun ρ cw => wpc K c ρ cw (post K Q s)) (post K Q s)
  | .blk id :: s => blkQ id (post K Q s)
  | .hook n :: s => seqQ n (post K Q s)

def wpk (K : Nat → Ct) (Q : RE → Env → CW → Prop) (c : RC) (s : List Fr) (ρ : Env) (cw : CW) : Prop := wpc K c ρ cw (post K Q s)
def nxt (K : Nat → Ct) (Q : RE → Env → CW → Prop) (s : List Fr) (ρ : Env) (cw : CW) : Prop := post K Q s .nx ρ cw
def ext (K : Nat → Ct) (Q : RE → Env → CW → Prop) (i : Nat) (s : List Fr) (ρ : Env) (cw : CW) : Prop := post K Q s (.exit i) ρ cw
def wpo (K : Nat → Ct) (Q : RE → Env → CW → Prop) (ops : List RO) (l : List Nat) (s : List Fr) (ρ : Env) (cw : CW) : Prop := wpl K ops ρ cw fun ρ' cw' => post K Q s .nx (ρ'.keep (some l)) cw'
def wpr (K : Nat → Ct) (Q : RE → Env → CW → Prop) (res : Option (CV × CW)) (d : Option Nat) (r : List RO) (l : List Nat) (s : List Fr) (ρ : Env) : Prop := ∃ x, res = some x ∧ wpo K Q r l s (ρ.put d x.1) x.2
def wpa (K : Nat → Ct) (Q : RE → Env → CW → Prop) (g : Nat) (vs : Option (List CV)) (d : Option Nat) (r : List RO) (l : List Nat) (s : List Fr) (ρ : Env) (cw : CW) : Prop :=
  ∃ x, vs = some x ∧ K g x cw fun v cw' => wpo K Q r l s (ρ.put d v) cw'
def wpif (K : Nat → Ct) (Q : RE → Env → CW → Prop) (b : Option Bool) (o : RO) (r : List RO) (l : List Nat) (s : List Fr) (ρ : Env) (cw : CW) : Prop :=
  ∃ x, b = some x ∧ if x then wpo K Q ({ o with guard := none } :: r) l s ρ cw else wpo K Q r l s (ρ.put o.dst (.tup [])) cw
def wpb (K : Nat → Ct) (Q : RE → Env → CW → Prop) (v : Option CV) (a b : RC) (s : List Fr) (ρ : Env) (cw : CW) : Prop :=
  ∃ t, v = some (.bool t) ∧ if t then wpk K Q a s ρ cw else wpk K Q b s ρ cw

section
variable {K : Nat → Ct} {Q : RE → Env → CW → Prop}

@[go_sem] theorem wpk_skip (s : List Fr) (ρ : Env) (cw : CW) : wpk K Q .skip s ρ cw = nxt K Q s ρ cw := rfl
@[go_sem] theorem wpk_label (i : Nat) (s : List Fr) (ρ : Env) (cw : CW) : wpk K Q (.label i) s ρ cw = nxt K Q s ρ cw := rfl
@[go_sem] theorem wpk_exit (i : Nat) (s : List Fr) (ρ : Env) (cw : CW) : wpk K Q (.exit i) s ρ cw = ext K Q i s ρ cw := rfl
theorem post_ret : ∀ (s : List Fr) (ρ : Env) (cw : CW), post K Q s .ret ρ cw = Q .ret ρ cw
  | [], _, _ => rfl
  | .code _ :: s, ρ, cw => post_ret s ρ cw
  | .blk _ :: s, ρ, cw => post_ret s ρ cw
  | .hook _ :: s, ρ, cw => post_ret s ρ cw
@[go_sem] theorem wpk_ret (s : List Fr) (ρ : Env) (cw : CW) : wpk K Q .ret s ρ cw = Q .ret ρ cw := post_ret s ρ cw
@[go_sem] theorem wpk_seq (a b : RC) (s : List Fr) (ρ : Env) (cw : CW) : wpk K Q (.seq a b) s ρ cw = wpk K Q a (.code b :: s) ρ cw := rfl
@[go_sem] theorem wpk_block (i : Nat) (c : RC) (s : List Fr) (ρ : Env) (cw : CW) : wpk K Q (.block i c) s ρ cw = wpk K Q c (.blk i :: s) ρ cw := rfl
@[go_sem] theorem wpk_scope (c : RC) (s : List Fr) (ρ : Env) (cw : CW) : wpk K Q (.scope c) s ρ cw = wpk K Q c s ρ cw := rfl
@[go_sem] theorem wpk_cond (x : RX) (a b : RC) (s : List Fr) (ρ : Env) (cw : CW) : wpk K Q (.cond x a b) s ρ cw = wpb K Q (ev ρ x) a b s ρ cw := rfl
@[go_sem] theorem wpb_true (a b : RC) (s : List Fr) (ρ : Env) (cw : CW) : wpb K Q (some (.bool true)) a b s ρ cw = wpk K Q a s ρ cw := by simp [wpb]
@[go_sem] theorem wpb_false (a b : RC) (s : List Fr) (ρ : Env) (cw : CW) : wpb K Q (some (.bool false)) a b s ρ cw = wpk K Q b s ρ cw := by simp [wpb]
theorem wpb_of {t : Bool} {a b : RC} {s : List Fr} {ρ : Env} {cw : CW} (h1 : t = true → wpk K Q a s ρ cw) (h2 : t = false → wpk K Q b s ρ cw) : wpb K Q (some (.bool t)) a b s ρ cw := by
  cases t
  · exact ⟨_, rfl, h2 rfl⟩
  · exact ⟨_, rfl, h1 rfl⟩
@[go_sem] theorem wpk_region (ops : List RO) (d : Bool) (l : List Nat) (s : List Fr) (ρ : Env) (cw : CW) : wpk K Q (.region ops d (some l)) s ρ cw = wpo K Q ops l s ρ cw := rfl
@[go_sem] theorem nxt_nil (ρ : Env) (cw : CW) : nxt K Q [] ρ cw = Q .nx ρ cw := rfl
@[go_sem] theorem nxt_code (c : RC) (s : List Fr) (ρ : Env) (cw : CW) : nxt K Q (.code c :: s) ρ cw = wpk K Q c s ρ cw := rfl
@[go_sem] theorem nxt_blk (i : Nat) (s : List Fr) (ρ : Env) (cw : CW) : nxt K Q (.blk i :: s) ρ cw = nxt K Q s ρ cw := rfl
@[go_sem] theorem nxt_hook (n : Env → CW → Prop) (s : List Fr) (ρ : Env) (cw : CW) : nxt K Q (.hook n :: s) ρ cw = n ρ cw := rfl
@[go_sem] theorem ext_nil (i : Nat) (ρ : Env) (cw : CW) : ext K Q i [] ρ cw = Q (.exit i) ρ cw := rfl
@[go_sem] theorem ext_code (i : Nat) (c : RC) (s : List Fr) (ρ : Env) (cw : CW) : ext K Q i (.code c :: s) ρ cw = ext K Q i s ρ cw := rfl
@[go_sem] theorem ext_blk (i j : Nat) (s : List Fr) (ρ : Env) (cw : CW) : ext K Q i (.blk j :: s) ρ cw = if i = j then nxt K Q s ρ cw else ext K Q i s ρ cw := rfl
@[go_sem] theorem ext_hook (i : Nat) (n : Env → CW → Prop) (s : List Fr) (ρ : Env) (cw : CW) : ext K Q i (.hook n :: s) ρ cw = ext K Q i s ρ cw := rfl
/-- What is kept of an environment. -/
def keepL (ρ : Env) : List Nat → Env
  | [] => []
  | t :: l => match Env.get ρ t with
    | some v => (t, v) :: keepL ρ l
    | none => keepL ρ l
theorem keepL_eq (ρ : Env) (l : List Nat) : ρ.keep (some l) = keepL ρ l := by
  simp only [Env.keep]
  induction l with
  | nil => rfl
  | cons t l ih =>
    simp only [List.filterMap_cons, keepL]
    cases Env.get ρ t <;> simp [ih]
@[go_sem] theorem keepL_nil (ρ : Env) : keepL ρ [] = [] := rfl
def keep1 (t : Nat) (v : Option CV) (r : Env) : Env := match v with | some v => (t, v) :: r | none => r
@[go_sem] theorem keepL_cons (ρ : Env) (t : Nat) (l : List Nat) : keepL ρ (t :: l) = keep1 t (Env.get ρ t) (keepL ρ l) := by
  simp only [keepL, keep1]
@[go_sem] theorem keep1_some (t : Nat) (v : CV) (r : Env) : keep1 t (some v) r = (t, v) :: r := rfl
@[go_sem] theorem keep1_none (t : Nat) (r : Env) : keep1 t none r = r := rfl
@[go_sem] theorem wpo_nil (l : List Nat) (s : List Fr) (ρ : Env) (cw : CW) : wpo K Q [] l s ρ cw = nxt K Q s (keepL ρ l) cw := by
  simp only [wpo, wpl, nxt, keepL_eq]
@[go_sem] theorem wpr_some (v : CV) (cw : CW) (d : Option Nat) (r : List RO) (l : List Nat) (s : List Fr) (ρ : Env) : wpr K Q (some (v, cw)) d r l s ρ = wpo K Q r l s (ρ.put d v) cw := by simp [wpr]
@[go_sem] theorem wpo_if (d : Option Nat) (op : ROp) (g : Nat × Bool) (af : List Nat) (r : List RO) (l : List Nat) (s : List Fr) (ρ : Env) (cw : CW) :
    wpo K Q (⟨d, op, some g, af⟩ :: r) l s ρ cw = wpif K Q (wantedR (some g) ρ) ⟨d, op, some g, af⟩ r l s ρ cw := by simp [wpo, wpif, wpl, wantedR]
@[go_sem] theorem wpif_true (d : Option Nat) (op : ROp) (g : Option (Nat × Bool)) (af : List Nat) (r : List RO) (l : List Nat) (s : List Fr) (ρ : Env) (cw : CW) :
    wpif K Q (some true) ⟨d, op, g, af⟩ r l s ρ cw = wpo K Q (⟨d, op, none, af⟩ :: r) l s ρ cw := by simp [wpif]
@[go_sem] theorem wpif_false (d : Option Nat) (op : ROp) (g : Option (Nat × Bool)) (af : List Nat) (r : List RO) (l : List Nat) (s : List Fr) (ρ : Env) (cw : CW) :
    wpif K Q (some false) ⟨d, op, g, af⟩ r l s ρ cw = wpo K Q r l s (ρ.put d (.tup [])) cw := by simp [wpif]
theorem wpif_of {t : Bool} {d : Option Nat} {op : ROp} {g : Option (Nat × Bool)} {af : List Nat} {r : List RO} {l : List Nat} {s : List Fr} {ρ : Env} {cw : CW}
    (h1 : t = true → wpo K Q (⟨d, op, none, af⟩ :: r) l s ρ cw) (h2 : t = false → wpo K Q r l s (ρ.put d (.tup [])) cw) : wpif K Q (some t) ⟨d, op, g, af⟩ r l s ρ cw := by
  cases t
  · exact ⟨_, rfl, h2 rfl⟩
  · exact ⟨_, rfl, h1 rfl⟩
@[go_sem] theorem wpo_call (d : Option Nat) (g : Nat) (xs : List RX) (af : List Nat) (r : List RO) (l : List Nat) (s : List Fr) (ρ : Env) (cw : CW) :
    wpo K Q (⟨d, .call g xs, none, af⟩ :: r) l s ρ cw = wpa K Q g (evs (ev ρ) xs) d r l s ρ cw := by simp [wpo, wpa, wpl, wantedR, wpOp]

def wpcv (K : Nat → Ct) (Q : RE → Env → CW → Prop) (f : Option CV) (vs : Option (List CV)) (d : Option Nat) (r : List RO) (l : List Nat) (s : List Fr) (ρ : Env) (cw : CW) : Prop :=
  ∃ g first caps xs, f = some (.fn g first caps) ∧ vs = some xs ∧ K g (first ++ xs ++ caps) cw fun v cw' => wpo K Q r l s (ρ.put d v) cw'
@[go_sem] theorem wpo_callv (d : Option Nat) (f : RX) (xs : List RX) (af : List Nat) (r : List RO) (l : List Nat) (s : List Fr) (ρ : Env) (cw : CW) :
    wpo K Q (⟨d, .callv f xs, none, af⟩ :: r) l s ρ cw = wpcv K Q (ev ρ f) (evs (ev ρ) xs) d r l s ρ cw := by simp [wpo, wpcv, wpl, wantedR, wpOp]
@[go_sem] theorem wpcv_fn (g : Nat) (first caps vs : List CV) (d : Option Nat) (r : List RO) (l : List Nat) (s : List Fr) (ρ : Env) (cw : CW) :
    wpcv K Q (some (.fn g first caps)) (some vs) d r l s ρ cw = wpa K Q g (some (first ++ vs ++ caps)) d r l s ρ cw := by
  simp only [wpcv, wpa, Option.some.injEq, CV.fn.injEq]
  apply propext
  constructor
  · rintro ⟨_, _, _, _, ⟨rfl, rfl, rfl⟩, rfl, h⟩
    exact ⟨_, rfl, h⟩
  · rintro ⟨_, rfl, h⟩
    exact ⟨_, _, _, _, ⟨rfl, rfl, rfl⟩, rfl, h⟩

/-! ## Contracts -/
/-- A contract that is a function of the arguments alone. -/
def pureC (F : List CV → Option CV) : Ct := fun args cw Q => ∃ v, F args = some v ∧ Q v cw
def wpv (K : Nat → Ct) (Q : RE → Env → CW → Prop) (v : Option CV) (d : Option Nat) (r : List RO) (l : List Nat) (s : List Fr) (ρ : Env) (cw : CW) : Prop := ∃ x, v = some x ∧ wpo K Q r l s (ρ.put d x) cw
theorem wpa_pure {g : Nat} {F : List CV → Option CV} (h : K g = pureC F) (vs : List CV) (d : Option Nat) (r : List RO) (l : List Nat) (s : List Fr) (ρ : Env) (cw : CW) :
    wpa K Q g (some vs) d r l s ρ cw = wpv K Q (F vs) d r l s ρ cw := by simp [wpa, wpv, h, pureC]
@[go_sem] theorem wpv_some (v : CV) (d : Option Nat) (r : List RO) (l : List Nat) (s : List Fr) (ρ : Env) (cw : CW) : wpv K Q (some v) d r l s ρ cw = wpo K Q r l s (ρ.put d v) cw := by simp [wpv]
/-- A contract that is a function of the arguments and the world. -/
def effC (F : List CV → CW → Option (CV × CW)) : Ct := fun args cw Q => ∃ r, F args cw = some r ∧ Q r.1 r.2
theorem wpa_eff {g : Nat} {F : List CV → CW → Option (CV × CW)} (h : K g = effC F) (vs : List CV) (d : Option Nat) (r : List RO) (l : List Nat) (s : List Fr) (ρ : Env) (cw : CW) :
    wpa K Q g (some vs) d r l s ρ cw = wpr K Q (F vs cw) d r l s ρ := by simp [wpa, wpr, h, effC]

@[go_sem] theorem push_get (cw : CW) (o : CO) (b : Nat) : (cw.push o).get b = if b = cw.next then some o else cw.get b := rfl
@[go_sem] theorem push_next (cw : CW) (o : CO) : (cw.push o).next = cw.next + 1 := rfl
@[go_sem] theorem set_get (cw : CW) (o : CO) (b c : Nat) : (cw.set b o).get c = if c = b then some o else cw.get c := rfl
@[go_sem] theorem set_next (cw : CW) (o : CO) (b : Nat) : (cw.set b o).next = cw.next := rfl
@[go_sem] theorem kill_get (cw : CW) (b c : Nat) : (cw.kill b).get c = if c = b then none else cw.get c := rfl
@[go_sem] theorem kill_next (cw : CW) (b : Nat) : (cw.kill b).next = cw.next := rfl
theorem push_old {cw : CW} {o : CO} {b : Nat} (h : b ≠ cw.next) : (cw.push o).get b = cw.get b := if_neg h
theorem set_old {cw : CW} {o : CO} {b c : Nat} (h : b ≠ c) : (cw.set c o).get b = cw.get b := if_neg h
theorem kill_old {cw : CW} {b c : Nat} (h : b ≠ c) : (cw.kill c).get b = cw.get b := if_neg h
@[go_sem] theorem env_put_some (ρ : Env) (d : Nat) (v : CV) : ρ.put (some d) v = (d, v) :: ρ := rfl
@[go_sem] theorem env_put_none (ρ : Env) (v : CV) : ρ.put none v = ρ := rfl
@[go_sem] theorem env_get (i t : Nat) (v : CV) (r : Env) : Env.get ((i, v) :: r) t = if i = t then some v else Env.get r t := rfl
@[go_sem] theorem env_get_nil (t : Nat) : Env.get [] t = none := rfl
@[go_sem] theorem ev_t (ρ : Env) (t : Nat) : ev ρ (.t t) = Env.get ρ t := rfl
@[go_sem] theorem ev_c (ρ : Env) (v : CV) : ev ρ (.c v) = some v := rfl

/-! ## Loops, and whole functions -/
theorem wpk_loop {c : RC} {s : List Fr} {ρ : Env} {cw : CW} (I : Nat → Env → CW → Prop) (m : Nat) (h0 : I m ρ cw)
    (h : ∀ m ρ cw (N : Env → CW → Prop), I m ρ cw → (∀ m' ρ' cw', m' < m → I m' ρ' cw' → N ρ' cw') → wpk K Q c (.hook N :: s) ρ cw) : wpk K Q (.loop c) s ρ cw := by
  have key : ∀ k m ρ cw, m ≤ k → I m ρ cw → loopN (wpc K c) (k + 1) ρ cw (post K Q s) := by
    intro k
    induction k with
    | zero =>
      intro m ρ cw hm hi
      exact h m ρ cw (fun ρ' cw' => loopN (wpc K c) 0 ρ' cw' (post K Q s)) hi fun m' ρ' cw' hlt _ => absurd hlt (by omega)
    | succ k ih =>
      intro m ρ cw hm hi
      exact h m ρ cw (fun ρ' cw' => loopN (wpc K c) (k + 1) ρ' cw' (post K Q s)) hi fun m' ρ' cw' hlt hi' => ih m' ρ' cw' (by omega) hi'
  exact ⟨m + 1, key m m ρ cw (Nat.le_refl _) h0⟩

/-- A function's run. -/
def Runs (K : Nat → Ct) (f : RF) (args : List CV) (cw : CW) (v : CV) : Prop :=
  ∀ Q : RE → Env → CW → Prop, (∀ e ρ' cw' v', (e = .nx ∨ e = .ret) → resV cw' ρ' f.rs = some v' → Frz cw.next cw' v' v → (∀ b, b < cw.next → cw'.get b = cw.get b) → Q e ρ' cw') →
    wpk K Q f.body [] (numb 0 args) cw

theorem wpF_pure {f : RF} {F : List CV → Option CV} (h : ∀ args v, F args = some v → args.length = f.np ∧ ∀ cw, Runs K f args cw v) {args : List CV} {cw : CW} {Q : CV → CW → Prop} (hc : pureC F args cw Q) :
    wpF K f args cw Q := by
  obtain ⟨v, hv, hq⟩ := hc
  obtain ⟨h1, h2⟩ := h args v hv
  refine ⟨h1, h2 cw _ fun e ρ' cw' v' he hr hf hk => ⟨he, v', v, cw, hr, .gone hf hk, hq⟩⟩
@[go_sem] theorem wpo_mov (d : Option Nat) (x_x : RX) (af : List Nat) (r : List RO) (l : List Nat) (s : List Fr) (ρ : Env) (cw : CW) :
    wpo K Q (⟨d, (.mov x_x), none, af⟩ :: r) l s ρ cw = wpr K Q (stepOp (.mov x_x) (ev ρ) cw) d r l s ρ := by simp [wpo, wpr, wpl, wantedR, wpOp]
@[go_sem] theorem wpo_pick (d : Option Nat) (x_c x_a x_b : RX) (af : List Nat) (r : List RO) (l : List Nat) (s : List Fr) (ρ : Env) (cw : CW) :
    wpo K Q (⟨d, (.pick x_c x_a x_b), none, af⟩ :: r) l s ρ cw = wpr K Q (stepOp (.pick x_c x_a x_b) (ev ρ) cw) d r l s ρ := by simp [wpo, wpr, wpl, wantedR, wpOp]
@[go_sem] theorem wpo_bin (d : Option Nat) (x_op : BinOp) (x_x x_y : RX) (af : List Nat) (r : List RO) (l : List Nat) (s : List Fr) (ρ : Env) (cw : CW) :
    wpo K Q (⟨d, (.bin x_op x_x x_y), none, af⟩ :: r) l s ρ cw = wpr K Q (stepOp (.bin x_op x_x x_y) (ev ρ) cw) d r l s ρ := by simp [wpo, wpr, wpl, wantedR, wpOp]
@[go_sem] theorem wpo_eq (d : Option Nat) (x_neg : Bool) (x_k : EqK) (x_x x_y : RX) (af : List Nat) (r : List RO) (l : List Nat) (s : List Fr) (ρ : Env) (cw : CW) :
    wpo K Q (⟨d, (.eq x_neg x_k x_x x_y), none, af⟩ :: r) l s ρ cw = wpr K Q (stepOp (.eq x_neg x_k x_x x_y) (ev ρ) cw) d r l s ρ := by simp [wpo, wpr, wpl, wantedR, wpOp]
@[go_sem] theorem wpo_not (d : Option Nat) (x_x : RX) (af : List Nat) (r : List RO) (l : List Nat) (s : List Fr) (ρ : Env) (cw : CW) :
    wpo K Q (⟨d, (.not x_x), none, af⟩ :: r) l s ρ cw = wpr K Q (stepOp (.not x_x) (ev ρ) cw) d r l s ρ := by simp [wpo, wpr, wpl, wantedR, wpOp]
@[go_sem] theorem wpo_neg (d : Option Nat) (x_x : RX) (af : List Nat) (r : List RO) (l : List Nat) (s : List Fr) (ρ : Env) (cw : CW) :
    wpo K Q (⟨d, (.neg x_x), none, af⟩ :: r) l s ρ cw = wpr K Q (stepOp (.neg x_x) (ev ρ) cw) d r l s ρ := by simp [wpo, wpr, wpl, wantedR, wpOp]
@[go_sem] theorem wpo_cpl (d : Option Nat) (x_x : RX) (af : List Nat) (r : List RO) (l : List Nat) (s : List Fr) (ρ : Env) (cw : CW) :
    wpo K Q (⟨d, (.cpl x_x), none, af⟩ :: r) l s ρ cw = wpr K Q (stepOp (.cpl x_x) (ev ρ) cw) d r l s ρ := by simp [wpo, wpr, wpl, wantedR, wpOp]
@[go_sem] theorem wpo_conv (d : Option Nat) (x_k : IntKind) (x_x : RX) (af : List Nat) (r : List RO) (l : List Nat) (s : List Fr) (ρ : Env) (cw : CW) :
    wpo K Q (⟨d, (.conv x_k x_x), none, af⟩ :: r) l s ρ cw = wpr K Q (stepOp (.conv x_k x_x) (ev ρ) cw) d r l s ρ := by simp [wpo, wpr, wpl, wantedR, wpOp]
@[go_sem] theorem wpo_s2s (d : Option Nat) (x_x : RX) (af : List Nat) (r : List RO) (l : List Nat) (s : List Fr) (ρ : Env) (cw : CW) :
    wpo K Q (⟨d, (.s2s x_x), none, af⟩ :: r) l s ρ cw = wpr K Q (stepOp (.s2s x_x) (ev ρ) cw) d r l s ρ := by simp [wpo, wpr, wpl, wantedR, wpOp]
@[go_sem] theorem wpo_s2b (d : Option Nat) (x_own : Bool) (x_x : RX) (af : List Nat) (r : List RO) (l : List Nat) (s : List Fr) (ρ : Env) (cw : CW) :
    wpo K Q (⟨d, (.s2b x_own x_x), none, af⟩ :: r) l s ρ cw = wpr K Q (stepOp (.s2b x_own x_x) (ev ρ) cw) d r l s ρ := by simp [wpo, wpr, wpl, wantedR, wpOp]
@[go_sem] theorem wpo_b2s (d : Option Nat) (x_x : RX) (af : List Nat) (r : List RO) (l : List Nat) (s : List Fr) (ρ : Env) (cw : CW) :
    wpo K Q (⟨d, (.b2s x_x), none, af⟩ :: r) l s ρ cw = wpr K Q (stepOp (.b2s x_x) (ev ρ) cw) d r l s ρ := by simp [wpo, wpr, wpl, wantedR, wpOp]
@[go_sem] theorem wpo_i2s (d : Option Nat) (x_x : RX) (af : List Nat) (r : List RO) (l : List Nat) (s : List Fr) (ρ : Env) (cw : CW) :
    wpo K Q (⟨d, (.i2s x_x), none, af⟩ :: r) l s ρ cw = wpr K Q (stepOp (.i2s x_x) (ev ρ) cw) d r l s ρ := by simp [wpo, wpr, wpl, wantedR, wpOp]
@[go_sem] theorem wpo_len (d : Option Nat) (x_x : RX) (af : List Nat) (r : List RO) (l : List Nat) (s : List Fr) (ρ : Env) (cw : CW) :
    wpo K Q (⟨d, (.len x_x), none, af⟩ :: r) l s ρ cw = wpr K Q (stepOp (.len x_x) (ev ρ) cw) d r l s ρ := by simp [wpo, wpr, wpl, wantedR, wpOp]
@[go_sem] theorem wpo_lenS (d : Option Nat) (x_x : RX) (af : List Nat) (r : List RO) (l : List Nat) (s : List Fr) (ρ : Env) (cw : CW) :
    wpo K Q (⟨d, (.lenS x_x), none, af⟩ :: r) l s ρ cw = wpr K Q (stepOp (.lenS x_x) (ev ρ) cw) d r l s ρ := by simp [wpo, wpr, wpl, wantedR, wpOp]
@[go_sem] theorem wpo_lenA (d : Option Nat) (x_n : Nat) (af : List Nat) (r : List RO) (l : List Nat) (s : List Fr) (ρ : Env) (cw : CW) :
    wpo K Q (⟨d, (.lenA x_n), none, af⟩ :: r) l s ρ cw = wpr K Q (stepOp (.lenA x_n) (ev ρ) cw) d r l s ρ := by simp [wpo, wpr, wpl, wantedR, wpOp]
@[go_sem] theorem wpo_lenM (d : Option Nat) (x_x : RX) (af : List Nat) (r : List RO) (l : List Nat) (s : List Fr) (ρ : Env) (cw : CW) :
    wpo K Q (⟨d, (.lenM x_x), none, af⟩ :: r) l s ρ cw = wpr K Q (stepOp (.lenM x_x) (ev ρ) cw) d r l s ρ := by simp [wpo, wpr, wpl, wantedR, wpOp]
@[go_sem] theorem wpo_box (d : Option Nat) (x_n : Nat) (x_x : RX) (af : List Nat) (r : List RO) (l : List Nat) (s : List Fr) (ρ : Env) (cw : CW) :
    wpo K Q (⟨d, (.box x_n x_x), none, af⟩ :: r) l s ρ cw = wpr K Q (stepOp (.box x_n x_x) (ev ρ) cw) d r l s ρ := by simp [wpo, wpr, wpl, wantedR, wpOp]
@[go_sem] theorem wpo_alloc (d : Option Nat) (x_zero : List CV) (af : List Nat) (r : List RO) (l : List Nat) (s : List Fr) (ρ : Env) (cw : CW) :
    wpo K Q (⟨d, (.alloc x_zero), none, af⟩ :: r) l s ρ cw = wpr K Q (stepOp (.alloc x_zero) (ev ρ) cw) d r l s ρ := by simp [wpo, wpr, wpl, wantedR, wpOp]
@[go_sem] theorem wpo_load (d : Option Nat) (x_agg : Bool) (x_n : Nat) (x_x : RX) (af : List Nat) (r : List RO) (l : List Nat) (s : List Fr) (ρ : Env) (cw : CW) :
    wpo K Q (⟨d, (.load x_agg x_n x_x), none, af⟩ :: r) l s ρ cw = wpr K Q (stepOp (.load x_agg x_n x_x) (ev ρ) cw) d r l s ρ := by simp [wpo, wpr, wpl, wantedR, wpOp]
@[go_sem] theorem wpo_store (d : Option Nat) (x_n : Nat) (x_x x_v : RX) (af : List Nat) (r : List RO) (l : List Nat) (s : List Fr) (ρ : Env) (cw : CW) :
    wpo K Q (⟨d, (.store x_n x_x x_v), none, af⟩ :: r) l s ρ cw = wpr K Q (stepOp (.store x_n x_x x_v) (ev ρ) cw) d r l s ρ := by simp [wpo, wpr, wpl, wantedR, wpOp]
@[go_sem] theorem wpo_nilc (d : Option Nat) (x_x : RX) (af : List Nat) (r : List RO) (l : List Nat) (s : List Fr) (ρ : Env) (cw : CW) :
    wpo K Q (⟨d, (.nilc x_x), none, af⟩ :: r) l s ρ cw = wpr K Q (stepOp (.nilc x_x) (ev ρ) cw) d r l s ρ := by simp [wpo, wpr, wpl, wantedR, wpOp]
@[go_sem] theorem wpo_faddr (d : Option Nat) (x_off : Nat) (x_x : RX) (af : List Nat) (r : List RO) (l : List Nat) (s : List Fr) (ρ : Env) (cw : CW) :
    wpo K Q (⟨d, (.faddr x_off x_x), none, af⟩ :: r) l s ρ cw = wpr K Q (stepOp (.faddr x_off x_x) (ev ρ) cw) d r l s ρ := by simp [wpo, wpr, wpl, wantedR, wpOp]
@[go_sem] theorem wpo_fld (d : Option Nat) (x_agg : Bool) (x_off x_n : Nat) (x_x : RX) (af : List Nat) (r : List RO) (l : List Nat) (s : List Fr) (ρ : Env) (cw : CW) :
    wpo K Q (⟨d, (.fld x_agg x_off x_n x_x), none, af⟩ :: r) l s ρ cw = wpr K Q (stepOp (.fld x_agg x_off x_n x_x) (ev ρ) cw) d r l s ρ := by simp [wpo, wpr, wpl, wantedR, wpOp]
@[go_sem] theorem wpo_iaddr (d : Option Nat) (x_sz : Nat) (x_x x_i : RX) (af : List Nat) (r : List RO) (l : List Nat) (s : List Fr) (ρ : Env) (cw : CW) :
    wpo K Q (⟨d, (.iaddr x_sz x_x x_i), none, af⟩ :: r) l s ρ cw = wpr K Q (stepOp (.iaddr x_sz x_x x_i) (ev ρ) cw) d r l s ρ := by simp [wpo, wpr, wpl, wantedR, wpOp]
@[go_sem] theorem wpo_iaddrA (d : Option Nat) (x_len x_sz : Nat) (x_x x_i : RX) (af : List Nat) (r : List RO) (l : List Nat) (s : List Fr) (ρ : Env) (cw : CW) :
    wpo K Q (⟨d, (.iaddrA x_len x_sz x_x x_i), none, af⟩ :: r) l s ρ cw = wpr K Q (stepOp (.iaddrA x_len x_sz x_x x_i) (ev ρ) cw) d r l s ρ := by simp [wpo, wpr, wpl, wantedR, wpOp]
@[go_sem] theorem wpo_idx (d : Option Nat) (x_len : Nat) (x_agg : Bool) (x_sz : Nat) (x_x x_i : RX) (af : List Nat) (r : List RO) (l : List Nat) (s : List Fr) (ρ : Env) (cw : CW) :
    wpo K Q (⟨d, (.idx x_len x_agg x_sz x_x x_i), none, af⟩ :: r) l s ρ cw = wpr K Q (stepOp (.idx x_len x_agg x_sz x_x x_i) (ev ρ) cw) d r l s ρ := by simp [wpo, wpr, wpl, wantedR, wpOp]
@[go_sem] theorem wpo_idxS (d : Option Nat) (x_x x_i : RX) (af : List Nat) (r : List RO) (l : List Nat) (s : List Fr) (ρ : Env) (cw : CW) :
    wpo K Q (⟨d, (.idxS x_x x_i), none, af⟩ :: r) l s ρ cw = wpr K Q (stepOp (.idxS x_x x_i) (ev ρ) cw) d r l s ρ := by simp [wpo, wpr, wpl, wantedR, wpOp]
@[go_sem] theorem wpo_build (d : Option Nat) (x_zero : List CV) (x_parts : List (Nat × Nat × RX)) (af : List Nat) (r : List RO) (l : List Nat) (s : List Fr) (ρ : Env) (cw : CW) :
    wpo K Q (⟨d, (.build x_zero x_parts), none, af⟩ :: r) l s ρ cw = wpr K Q (stepOp (.build x_zero x_parts) (ev ρ) cw) d r l s ρ := by simp [wpo, wpr, wpl, wantedR, wpOp]
@[go_sem] theorem wpo_lit (d : Option Nat) (x_own : Bool) (x_sz x_n : Nat) (x_zero : List CV) (x_parts : List (Nat × Nat × RX)) (af : List Nat) (r : List RO) (l : List Nat) (s : List Fr) (ρ : Env) (cw : CW) :
    wpo K Q (⟨d, (.lit x_own x_sz x_n x_zero x_parts), none, af⟩ :: r) l s ρ cw = wpr K Q (stepOp (.lit x_own x_sz x_n x_zero x_parts) (ev ρ) cw) d r l s ρ := by simp [wpo, wpr, wpl, wantedR, wpOp]
@[go_sem] theorem wpo_mk (d : Option Nat) (x_sz : Nat) (x_zero : List CV) (x_l x_c : RX) (af : List Nat) (r : List RO) (l : List Nat) (s : List Fr) (ρ : Env) (cw : CW) :
    wpo K Q (⟨d, (.mk x_sz x_zero x_l x_c), none, af⟩ :: r) l s ρ cw = wpr K Q (stepOp (.mk x_sz x_zero x_l x_c) (ev ρ) cw) d r l s ρ := by simp [wpo, wpr, wpl, wantedR, wpOp]
@[go_sem] theorem wpo_subS (d : Option Nat) (x_x : RX) (x_lo x_hi : Option RX) (af : List Nat) (r : List RO) (l : List Nat) (s : List Fr) (ρ : Env) (cw : CW) :
    wpo K Q (⟨d, (.subS x_x x_lo x_hi), none, af⟩ :: r) l s ρ cw = wpr K Q (stepOp (.subS x_x x_lo x_hi) (ev ρ) cw) d r l s ρ := by simp [wpo, wpr, wpl, wantedR, wpOp]
@[go_sem] theorem wpo_sub (d : Option Nat) (x_sz : Nat) (x_x : RX) (x_lo x_hi x_mx : Option RX) (af : List Nat) (r : List RO) (l : List Nat) (s : List Fr) (ρ : Env) (cw : CW) :
    wpo K Q (⟨d, (.sub x_sz x_x x_lo x_hi x_mx), none, af⟩ :: r) l s ρ cw = wpr K Q (stepOp (.sub x_sz x_x x_lo x_hi x_mx) (ev ρ) cw) d r l s ρ := by simp [wpo, wpr, wpl, wantedR, wpOp]
@[go_sem] theorem wpo_subA (d : Option Nat) (x_n x_sz : Nat) (x_x : RX) (af : List Nat) (r : List RO) (l : List Nat) (s : List Fr) (ρ : Env) (cw : CW) :
    wpo K Q (⟨d, (.subA x_n x_sz x_x), none, af⟩ :: r) l s ρ cw = wpr K Q (stepOp (.subA x_n x_sz x_x) (ev ρ) cw) d r l s ρ := by simp [wpo, wpr, wpl, wantedR, wpOp]
@[go_sem] theorem wpo_app (d : Option Nat) (x_sz : Nat) (x_x x_y : RX) (af : List Nat) (r : List RO) (l : List Nat) (s : List Fr) (ρ : Env) (cw : CW) :
    wpo K Q (⟨d, (.app x_sz x_x x_y), none, af⟩ :: r) l s ρ cw = wpr K Q (stepOp (.app x_sz x_x x_y) (ev ρ) cw) d r l s ρ := by simp [wpo, wpr, wpl, wantedR, wpOp]
@[go_sem] theorem wpo_appZ (d : Option Nat) (x_sz : Nat) (x_zero : List CV) (x_x x_n : RX) (af : List Nat) (r : List RO) (l : List Nat) (s : List Fr) (ρ : Env) (cw : CW) :
    wpo K Q (⟨d, (.appZ x_sz x_zero x_x x_n), none, af⟩ :: r) l s ρ cw = wpr K Q (stepOp (.appZ x_sz x_zero x_x x_n) (ev ρ) cw) d r l s ρ := by simp [wpo, wpr, wpl, wantedR, wpOp]
@[go_sem] theorem wpo_copy (d : Option Nat) (x_sz : Nat) (x_x x_y : RX) (af : List Nat) (r : List RO) (l : List Nat) (s : List Fr) (ρ : Env) (cw : CW) :
    wpo K Q (⟨d, (.copy x_sz x_x x_y), none, af⟩ :: r) l s ρ cw = wpr K Q (stepOp (.copy x_sz x_x x_y) (ev ρ) cw) d r l s ρ := by simp [wpo, wpr, wpl, wantedR, wpOp]
@[go_sem] theorem wpo_clr (d : Option Nat) (x_sz : Nat) (x_zero : List CV) (x_x : RX) (af : List Nat) (r : List RO) (l : List Nat) (s : List Fr) (ρ : Env) (cw : CW) :
    wpo K Q (⟨d, (.clr x_sz x_zero x_x), none, af⟩ :: r) l s ρ cw = wpr K Q (stepOp (.clr x_sz x_zero x_x) (ev ρ) cw) d r l s ρ := by simp [wpo, wpr, wpl, wantedR, wpOp]
@[go_sem] theorem wpo_max (d : Option Nat) (x_x x_y : RX) (af : List Nat) (r : List RO) (l : List Nat) (s : List Fr) (ρ : Env) (cw : CW) :
    wpo K Q (⟨d, (.max x_x x_y), none, af⟩ :: r) l s ρ cw = wpr K Q (stepOp (.max x_x x_y) (ev ρ) cw) d r l s ρ := by simp [wpo, wpr, wpl, wantedR, wpOp]
@[go_sem] theorem wpo_min (d : Option Nat) (x_x x_y : RX) (af : List Nat) (r : List RO) (l : List Nat) (s : List Fr) (ρ : Env) (cw : CW) :
    wpo K Q (⟨d, (.min x_x x_y), none, af⟩ :: r) l s ρ cw = wpr K Q (stepOp (.min x_x x_y) (ev ρ) cw) d r l s ρ := by simp [wpo, wpr, wpl, wantedR, wpOp]
@[go_sem] theorem wpo_mkfn (d : Option Nat) (x_g : Nat) (x_first x_caps : List RX) (af : List Nat) (r : List RO) (l : List Nat) (s : List Fr) (ρ : Env) (cw : CW) :
    wpo K Q (⟨d, (.mkfn x_g x_first x_caps), none, af⟩ :: r) l s ρ cw = wpr K Q (stepOp (.mkfn x_g x_first x_caps) (ev ρ) cw) d r l s ρ := by simp [wpo, wpr, wpl, wantedR, wpOp]
@[go_sem] theorem wpo_ext (d : Option Nat) (x_i : Nat) (x_x : RX) (af : List Nat) (r : List RO) (l : List Nat) (s : List Fr) (ρ : Env) (cw : CW) :
    wpo K Q (⟨d, (.ext x_i x_x), none, af⟩ :: r) l s ρ cw = wpr K Q (stepOp (.ext x_i x_x) (ev ρ) cw) d r l s ρ := by simp [wpo, wpr, wpl, wantedR, wpOp]
@[go_sem] theorem wpo_ifc (d : Option Nat) (x_t : Nat) (x_x : RX) (af : List Nat) (r : List RO) (l : List Nat) (s : List Fr) (ρ : Env) (cw : CW) :
    wpo K Q (⟨d, (.ifc x_t x_x), none, af⟩ :: r) l s ρ cw = wpr K Q (stepOp (.ifc x_t x_x) (ev ρ) cw) d r l s ρ := by simp [wpo, wpr, wpl, wantedR, wpOp]
@[go_sem] theorem wpo_mkmap (d : Option Nat)  (af : List Nat) (r : List RO) (l : List Nat) (s : List Fr) (ρ : Env) (cw : CW) :
    wpo K Q (⟨d, .mkmap, none, af⟩ :: r) l s ρ cw = wpr K Q (stepOp .mkmap (ev ρ) cw) d r l s ρ := by simp [wpo, wpr, wpl, wantedR, wpOp]
@[go_sem] theorem wpo_look (d : Option Nat) (x_ks : Bool) (x_zero : CV) (x_ok : Bool) (x_x x_k : RX) (af : List Nat) (r : List RO) (l : List Nat) (s : List Fr) (ρ : Env) (cw : CW) :
    wpo K Q (⟨d, (.look x_ks x_zero x_ok x_x x_k), none, af⟩ :: r) l s ρ cw = wpr K Q (stepOp (.look x_ks x_zero x_ok x_x x_k) (ev ρ) cw) d r l s ρ := by simp [wpo, wpr, wpl, wantedR, wpOp]
@[go_sem] theorem wpo_mupd (d : Option Nat) (x_ks : Bool) (x_m x_k x_v : RX) (af : List Nat) (r : List RO) (l : List Nat) (s : List Fr) (ρ : Env) (cw : CW) :
    wpo K Q (⟨d, (.mupd x_ks x_m x_k x_v), none, af⟩ :: r) l s ρ cw = wpr K Q (stepOp (.mupd x_ks x_m x_k x_v) (ev ρ) cw) d r l s ρ := by simp [wpo, wpr, wpl, wantedR, wpOp]
@[go_sem] theorem wpo_ment (d : Option Nat) (x_ks : Bool) (x_zero : CV) (x_m x_k : RX) (af : List Nat) (r : List RO) (l : List Nat) (s : List Fr) (ρ : Env) (cw : CW) :
    wpo K Q (⟨d, (.ment x_ks x_zero x_m x_k), none, af⟩ :: r) l s ρ cw = wpr K Q (stepOp (.ment x_ks x_zero x_m x_k) (ev ρ) cw) d r l s ρ := by simp [wpo, wpr, wpl, wantedR, wpOp]
@[go_sem] theorem wpo_mset (d : Option Nat) (x_m x_s x_v : RX) (af : List Nat) (r : List RO) (l : List Nat) (s : List Fr) (ρ : Env) (cw : CW) :
    wpo K Q (⟨d, (.mset x_m x_s x_v), none, af⟩ :: r) l s ρ cw = wpr K Q (stepOp (.mset x_m x_s x_v) (ev ρ) cw) d r l s ρ := by simp [wpo, wpr, wpl, wantedR, wpOp]
@[go_sem] theorem wpo_mdel (d : Option Nat) (x_ks : Bool) (x_m x_k : RX) (af : List Nat) (r : List RO) (l : List Nat) (s : List Fr) (ρ : Env) (cw : CW) :
    wpo K Q (⟨d, (.mdel x_ks x_m x_k), none, af⟩ :: r) l s ρ cw = wpr K Q (stepOp (.mdel x_ks x_m x_k) (ev ρ) cw) d r l s ρ := by simp [wpo, wpr, wpl, wantedR, wpOp]
@[go_sem] theorem wpo_mclr (d : Option Nat) (x_m : RX) (af : List Nat) (r : List RO) (l : List Nat) (s : List Fr) (ρ : Env) (cw : CW) :
    wpo K Q (⟨d, (.mclr x_m), none, af⟩ :: r) l s ρ cw = wpr K Q (stepOp (.mclr x_m) (ev ρ) cw) d r l s ρ := by simp [wpo, wpr, wpl, wantedR, wpOp]
@[go_sem] theorem repl_1 (z : List CV) : repl 1 z = z := by simp [repl]
@[go_sem] theorem repl_2 (z : List CV) : repl 2 z = z ++ z := by simp [repl, List.replicate]
@[go_sem] theorem repl_3 (z : List CV) : repl 3 z = z ++ (z ++ z) := by simp [repl, List.replicate]
end
attribute [go_sem] wantedR evs evo stepOp binV binI binSh binS isSh ldc splice CV.cells CV.one seqOf intV loV hiV hi3 appV resV resAll resOne numb eqV eqCell eqCells fillc Option.bind_some

end Go.Cs

/- Contracts of functions that are not run here: told over plain values; and closed calls. -/
namespace Go.Cs
open Go.RowKit (Below)
variable {P : Program} {fid : FuncId → Option Nat} {N : Nat} {w0 : World} {X : Cx} {cw : CW} {w : World} {G : Nat → World → Prop}

/-- A value of one cell that leads nowhere. -/
def scV : CV → Option Value
  | .int k n => some (.int k n)
  | .bool b => some (.bool b)
  | .str l => some (.string ⟨l.toArray⟩)
  | .nilp => some (.pointer none)
  | .nils => some (.slice none 0 0)
  | .nilm => some (.map none)
  | .nilf => some .nilFunc
  | .nili => some .nilIface
  | _ => none

def scAll : List CV → Option (List Value)
  | [] => some []
  | c :: cs => (scV c).bind fun v => (scAll cs).bind fun vs => some (v :: vs)

/-- A value that leads nowhere. -/
def plainV : CV → Option Value
  | .agg cs => (scAll cs).bind fun vs => some (.agg vs.toArray)
  | .tup cs => (scAll cs).bind fun vs => some (.tuple vs.toArray)
  | c => scV c

theorem scV_vr {c : CV} {v : Value} (h : scV c = some v) : VR fid X w c v ∧ c.one = true := by
  cases c <;> simp only [scV, Option.some.injEq, reduceCtorEq] at h <;> subst h
  · exact ⟨.int _ _, rfl⟩
  · exact ⟨.bool _, rfl⟩
  · exact ⟨.str' _, rfl⟩
  · exact ⟨.nilp, rfl⟩
  · exact ⟨.nils, rfl⟩
  · exact ⟨.nilm, rfl⟩
  · exact ⟨.nilf, rfl⟩
  · exact ⟨.nili, rfl⟩

theorem scV_inv {c : CV} {v u : Value} (h : scV c = some v) (hu : VR fid X w c u) : u = v := by
  cases c <;> simp only [scV, Option.some.injEq, reduceCtorEq] at h <;> subst h
  · exact hu.int_inv
  · exact hu.bool_inv
  · exact hu.str_inv
  all_goals (cases hu; rfl)

theorem scAll_spec : ∀ {cs : List CV} {vs : List Value}, scAll cs = some vs → vs.length = cs.length ∧ ∀ (i : Nat) (c : CV), cs[i]? = some c → ∃ v, vs[i]? = some v ∧ scV c = some v
  | [], vs, h => by cases h; simp
  | c :: cs, vs, h => by
    simp only [scAll, Option.bind_eq_some_iff] at h
    obtain ⟨v, hv, us, hus, h⟩ := h
    cases h
    obtain ⟨h1, h2⟩ := scAll_spec hus
    refine ⟨by simp [h1], fun i d hd => ?_⟩
    cases i with
    | zero =>
      simp only [List.getElem?_cons_zero, Option.some.injEq] at hd ⊢
      subst hd
      exact ⟨v, rfl, hv⟩
    | succ i => simpa using h2 i d (by simpa using hd)

theorem plain_vr {c : CV} {v : Value} (h : plainV c = some v) : VR fid X w c v := by
  cases c with
  | agg cs =>
    simp only [plainV, Option.bind_eq_some_iff] at h
    obtain ⟨vs, hvs, h⟩ := h
    cases h
    obtain ⟨h1, h2⟩ := scAll_spec hvs
    refine .agg (by simpa using h1) (fun i c hc => ?_) fun i c hc => ?_
    · obtain ⟨v, k1, k2⟩ := h2 i c hc
      exact (scV_vr (fid := fid) (X := X) (w := w) k2).2
    · obtain ⟨v, k1, k2⟩ := h2 i c hc
      simpa [Array.getD_eq_getD_getElem?, k1] using (scV_vr (fid := fid) (X := X) (w := w) k2).1
  | tup cs =>
    simp only [plainV, Option.bind_eq_some_iff] at h
    obtain ⟨vs, hvs, h⟩ := h
    cases h
    obtain ⟨h1, h2⟩ := scAll_spec hvs
    refine .tup (by simpa using h1) fun i c hc => ?_
    obtain ⟨v, k1, k2⟩ := h2 i c hc
    simpa [Array.getD_eq_getD_getElem?, k1] using (scV_vr (fid := fid) (X := X) (w := w) k2).1
  | _ => exact (scV_vr (by simpa only [plainV] using h)).1

theorem plain_inv {c : CV} {v u : Value} (h : plainV c = some v) (hu : VR fid X w c u) : u = v := by
  cases c with
  | agg cs =>
    simp only [plainV, Option.bind_eq_some_iff] at h
    obtain ⟨vs, hvs, h⟩ := h
    cases h
    obtain ⟨h1, h2⟩ := scAll_spec hvs
    cases hu with
    | @agg _ rcs k1 _ k3 =>
      congr 1
      refine Array.ext (by simp [k1, h1]) fun i hi hi' => ?_
      have hlt : i < cs.length := by omega
      obtain ⟨v, e1, e2⟩ := h2 i cs[i] (List.getElem?_eq_getElem hlt)
      have := scV_inv e2 (k3 i _ (List.getElem?_eq_getElem hlt))
      rw [Array.getD_eq_getD_getElem?, Array.getElem?_eq_getElem hi] at this
      simp only [Option.getD_some] at this
      rw [this]
      have := (List.getElem?_eq_some_iff.1 e1).2
      simpa using this.symm
  | tup cs =>
    simp only [plainV, Option.bind_eq_some_iff] at h
    obtain ⟨vs, hvs, h⟩ := h
    cases h
    obtain ⟨h1, h2⟩ := scAll_spec hvs
    cases hu with
    | @tup _ rcs k1 k3 =>
      congr 1
      refine Array.ext (by simp [k1, h1]) fun i hi hi' => ?_
      have hlt : i < cs.length := by omega
      obtain ⟨v, e1, e2⟩ := h2 i cs[i] (List.getElem?_eq_getElem hlt)
      have := scV_inv e2 (k3 i _ (List.getElem?_eq_getElem hlt))
      rw [Array.getD_eq_getD_getElem?, Array.getElem?_eq_getElem hi] at this
      simp only [Option.getD_some] at this
      rw [this]
      have := (List.getElem?_eq_some_iff.1 e1).2
      simpa using this.symm
  | _ => exact scV_inv (by simpa only [plainV] using h) hu

def plainAll : List CV → Option (List Value)
  | [] => some []
  | c :: cs => (plainV c).bind fun v => (plainAll cs).bind fun vs => some (v :: vs)

theorem plainAll_args : ∀ {cs : List CV} {vs : List Value}, plainAll cs = some vs → vs.length = cs.length ∧ ∀ (i : Nat) (c : CV), cs[i]? = some c → ∃ v, vs[i]? = some v ∧ plainV c = some v
  | [], vs, h => by cases h; simp
  | c :: cs, vs, h => by
    simp only [plainAll, Option.bind_eq_some_iff] at h
    obtain ⟨v, hv, us, hus, h⟩ := h
    cases h
    obtain ⟨h1, h2⟩ := plainAll_args hus
    refine ⟨by simp [h1], fun i d hd => ?_⟩
    cases i with
    | zero =>
      simp only [List.getElem?_cons_zero, Option.some.injEq] at hd ⊢
      subst hd
      exact ⟨v, rfl, hv⟩
    | succ i => simpa using h2 i d (by simpa using hd)

theorem args_plain {cs : List CV} {vs : List Value} (h : plainAll cs = some vs) {rargs : Array Value} (hA : ArgsR fid X w cs rargs) : rargs = vs.toArray := by
  obtain ⟨h1, h2⟩ := plainAll_args h
  refine Array.ext (by simp [hA.1, h1]) fun i hi hi' => ?_
  have hlt : i < cs.length := by rw [← hA.1]; exact hi
  obtain ⟨v, e1, e2⟩ := h2 i cs[i] (List.getElem?_eq_getElem hlt)
  have := plain_inv e2 (hA.2 i _ (List.getElem?_eq_getElem hlt))
  rw [Array.getD_eq_getD_getElem?, Array.getElem?_eq_getElem hi] at this
  simp only [Option.getD_some] at this
  rw [this]
  have := (List.getElem?_eq_some_iff.1 e1).2
  simpa using this.symm

theorem plain_args {cs : List CV} {vs : List Value} (h : plainAll cs = some vs) : ArgsR fid X w cs vs.toArray := by
  obtain ⟨h1, h2⟩ := plainAll_args h
  refine ⟨by simpa using h1, fun i c hc => ?_⟩
  obtain ⟨v, e1, e2⟩ := h2 i c hc
  simpa [Array.getD_eq_getD_getElem?, e1] using plain_vr (fid := fid) (X := X) (w := w) e2

/-- A contract of the library: plain values in, a plain value out; nothing that was there is written. -/
theorem sound_lib {f : FuncId} {F : List CV → Option CV} (he : ∃ fn, P.funcs[f]? = some fn ∧ fn.name ≠ "runtime.NumGoroutine" ∧ fn.body.isSome = true)
    (h : ∀ args v, F args = some v → ∃ vs rv, plainAll args = some vs ∧ plainV v = some rv ∧ ∀ N w0 w, G N w0 → Below N w0 w → N ≤ w.heap.size → Calls P f vs.toArray w fun e w' => e = .returned rv ∧ Below w.heap.size w w') :
    Sound P fid G f (pureC F) := by
  refine ⟨he, ?_⟩
  rintro args cw Q ⟨v, hv, hq⟩ N w0 X w rargs hG hS hA
  obtain ⟨vs, rv, h1, h2, h3⟩ := h args v hv
  rw [args_plain h1 hA]
  refine (h3 N w0 w hG hS.below hS.room).mono ?_
  rintro e w' ⟨rfl, hb⟩
  obtain ⟨s, ex⟩ := hS.same hb
  exact ⟨v, rv, cw, X, rfl, hq, s, ex, plain_vr h2⟩

/-- A closed call: what it gives from nothing it gives anywhere. -/
theorem sound_closed {f : FuncId} {C : Ct} {args : List CV} {v : CV} (hs : Sound P fid G f C) (hst : ∀ N w0 w, G N w0 → Below N w0 w → N ≤ w.heap.size → G w.heap.size w)
    {vs : List Value} {rv : Value} (h1 : plainAll args = some vs) (h2 : plainV v = some rv) (hc : C args ⟨fun _ => none, 0⟩ fun u _ => u = v) :
    Sound P fid G f (fun a cw Q => a = args ∧ Q v cw) := by
  refine ⟨hs.enter, ?_⟩
  rintro args cw Q ⟨rfl, hq⟩ N w0 X w rargs hG hS hA
  have hA' : ArgsR fid ⟨fun _ => none, fun r _ => r < w.heap.size, 0⟩ w args rargs := by
    rw [args_plain h1 hA]; exact plain_args h1
  have hs0 : Sim fid w.heap.size w ⟨fun _ => none, fun r _ => r < w.heap.size, 0⟩ ⟨fun _ => none, 0⟩ w :=
    ⟨rfl, (by intro b m h; cases h), (by intro b o h; cases h), (by intro b b' m m' h; cases h), (by intro b m h; cases h), fun r o h => h, fun r o h => h, Below.refl _ _, Nat.le_refl _⟩
  refine (hs.calls _ _ _ hc w.heap.size w _ w rargs (hst N w0 w hG hS.below hS.room) hs0 hA').mono ?_
  rintro e w' ⟨c, v', cw', X', rfl, rfl, s, _, hv⟩
  obtain ⟨s', ex'⟩ := hS.same s.below
  refine ⟨c, v', cw, X, rfl, hq, s', ex', ?_⟩
  rw [plain_inv h2 hv]
  exact plain_vr h2

theorem Sound.weaken {f : FuncId} {C C' : Ct} (hs : Sound P fid G f C) (h : ∀ args cw Q, C' args cw Q → C args cw Q) : Sound P fid G f C' :=
  ⟨hs.enter, fun args cw Q hc N w0 X w rargs hG hS hA => hs.calls args cw Q (h _ _ _ hc) N w0 X w rargs hG hS hA⟩

/-- A table with one more contract. -/
def updK (K : Nat → Ct) (g : Nat) (C : Ct) : Nat → Ct := fun i => if i = g then C else K i
theorem ksound_upd {K : Nat → Ct} {g : Nat} {C : Ct} (hK : KSound P fid G K) (h : ∀ f, fid f = some g → Sound P fid G f C) : KSound P fid G (updK K g C) := by
  intro f i hf hne
  unfold updK at hne ⊢
  by_cases hi : i = g
  · subst hi
    rw [if_pos rfl]; exact h f hf
  · rw [if_neg hi] at hne ⊢
    exact hK f i hf hne
def noK : Nat → Ct := fun _ _ _ _ => False
theorem ksound_no : KSound P fid G noK := by
  rintro f g _ ⟨_, _, _, h⟩
  exact h.elim

theorem wpF_eff {K : Nat → Ct} {f : RF} {F : List CV → CW → Option (CV × CW)} (h : ∀ args cw v cw', F args cw = some (v, cw') → args.length = f.np ∧ cw' = cw ∧ Runs K f args cw v) {args : List CV} {cw : CW} {Q : CV → CW → Prop}
    (hc : effC F args cw Q) : wpF K f args cw Q := by
  obtain ⟨⟨v, cw'⟩, hv, hq⟩ := hc
  obtain ⟨h1, rfl, h2⟩ := h args cw v cw' hv
  exact ⟨h1, h2 _ fun e ρ' cw' v' he hr hf hk => ⟨he, v', v, _, hr, .gone hf hk, hq⟩⟩

@[go_sem] theorem nx1 (n : Nat) : (n = n + 1) = False := by simp
@[go_sem] theorem nx2 (n : Nat) : (n + 1 = n) = False := by simp
@[go_sem] theorem nx3 (n : Nat) : (n = n + 1 + 1) = False := by simp; omega
@[go_sem] theorem nx4 (n : Nat) : (n + 1 + 1 = n) = False := by simp; omega
@[go_sem] theorem nx5 (n : Nat) : (n + 1 = n + 1 + 1) = False := by simp
@[go_sem] theorem nx6 (n : Nat) : (n + 1 + 1 = n + 1) = False := by simp

theorem frz_sc {base : Nat} {c : CV} {v : Value} (h : scV c = some v) : Frz base cw c c := by
  cases c <;> simp only [scV, reduceCtorEq] at h <;> constructor

theorem frz_scAll {base : Nat} {cs : List CV} {vs : List Value} (h : scAll cs = some vs) : ∀ (i : Nat) (c d : CV), cs[i]? = some c → cs[i]? = some d → Frz base cw c d := by
  intro i c d hc hd
  rw [hc] at hd; cases hd
  obtain ⟨v, _, h2⟩ := (scAll_spec h).2 i c hc
  exact frz_sc h2

theorem frz_plain {base : Nat} {c : CV} {v : Value} (h : plainV c = some v) : Frz base cw c c := by
  cases c with
  | agg cs =>
    simp only [plainV, Option.bind_eq_some_iff] at h
    obtain ⟨vs, hvs, h⟩ := h
    exact .agg rfl (frz_scAll hvs)
  | tup cs =>
    simp only [plainV, Option.bind_eq_some_iff] at h
    obtain ⟨vs, hvs, h⟩ := h
    exact .tup rfl (frz_scAll hvs)
  | _ => exact frz_sc (by simpa only [plainV] using h)

theorem wpb_iff {K : Nat → Ct} {Q : RE → Env → CW → Prop} {t : Bool} {a b : RC} {s : List Fr} {ρ : Env} {cw : CW} : wpb K Q (some (.bool t)) a b s ρ cw ↔ (t = true → wpk K Q a s ρ cw) ∧ (t = false → wpk K Q b s ρ cw) := by
  cases t <;> simp [wpb]

@[go_sem] theorem idx_0 {α : Type} (a : α) (l : List α) : (a :: l)[0]? = some a := rfl
@[go_sem] theorem idx_1 {α : Type} (a : α) (l : List α) : (a :: l)[1]? = l[0]? := rfl
@[go_sem] theorem idx_2 {α : Type} (a : α) (l : List α) : (a :: l)[2]? = l[1]? := rfl
@[go_sem] theorem idx_3 {α : Type} (a : α) (l : List α) : (a :: l)[3]? = l[2]? := rfl
@[go_sem] theorem idx_4 {α : Type} (a : α) (l : List α) : (a :: l)[4]? = l[3]? := rfl
@[go_sem] theorem idx_5 {α : Type} (a : α) (l : List α) : (a :: l)[5]? = l[4]? := rfl
@[go_sem] theorem idx_6 {α : Type} (a : α) (l : List α) : (a :: l)[6]? = l[5]? := rfl
@[go_sem] theorem idx_7 {α : Type} (a : α) (l : List α) : (a :: l)[7]? = l[6]? := rfl
@[go_sem] theorem idx_8 {α : Type} (a : α) (l : List α) : (a :: l)[8]? = l[7]? := rfl
@[go_sem] theorem idx_9 {α : Type} (a : α) (l : List α) : (a :: l)[9]? = l[8]? := rfl
@[go_sem] theorem idx_10 {α : Type} (a : α) (l : List α) : (a :: l)[10]? = l[9]? := rfl
@[go_sem] theorem idx_11 {α : Type} (a : α) (l : List α) : (a :: l)[11]? = l[10]? := rfl
@[go_sem] theorem idx_12 {α : Type} (a : α) (l : List α) : (a :: l)[12]? = l[11]? := rfl
@[go_sem] theorem idx_13 {α : Type} (a : α) (l : List α) : (a :: l)[13]? = l[12]? := rfl
@[go_sem] theorem idx_14 {α : Type} (a : α) (l : List α) : (a :: l)[14]? = l[13]? := rfl
@[go_sem] theorem idx_15 {α : Type} (a : α) (l : List α) : (a :: l)[15]? = l[14]? := rfl
@[go_sem] theorem idx_16 {α : Type} (a : α) (l : List α) : (a :: l)[16]? = l[15]? := rfl
@[go_sem] theorem idx_17 {α : Type} (a : α) (l : List α) : (a :: l)[17]? = l[16]? := rfl
@[go_sem] theorem idx_18 {α : Type} (a : α) (l : List α) : (a :: l)[18]? = l[17]? := rfl
@[go_sem] theorem idx_19 {α : Type} (a : α) (l : List α) : (a :: l)[19]? = l[18]? := rfl
@[go_sem] theorem idx_20 {α : Type} (a : α) (l : List α) : (a :: l)[20]? = l[19]? := rfl
@[go_sem] theorem idx_21 {α : Type} (a : α) (l : List α) : (a :: l)[21]? = l[20]? := rfl
@[go_sem] theorem idx_22 {α : Type} (a : α) (l : List α) : (a :: l)[22]? = l[21]? := rfl
@[go_sem] theorem idx_23 {α : Type} (a : α) (l : List α) : (a :: l)[23]? = l[22]? := rfl

attribute [go_sem] List.length_cons List.length_nil List.take_zero List.take_succ_cons List.drop_succ_cons List.cons_append List.nil_append List.append_nil List.all_cons List.all_nil Nat.reduceAdd Nat.reduceLeDiff Nat.reduceMul Nat.zero_add Nat.add_zero Bool.and_true Bool.true_and Bool.and_self Nat.le_refl and_self and_true true_and Int.toNat_zero List.drop_zero List.take_length Int.toNat_natCast Nat.mul_one Bool.not_true Bool.not_false Nat.reduceEqDiff if_true if_false reduceIte Bool.false_eq_true beq_true beq_false stepOp

end Go.Cs

namespace Go.Cs
/-- footman/prio.Print: number 9 -/
def f_prio_Print : RF :=
  ⟨1, 28, [(.t 2), (.t 3)], (.seq (.region [⟨(some 1), (.box 2 (.t 0)), none, []⟩, ⟨(some 2), (.mov (.c (.str []))), none, []⟩, ⟨(some 3), (.mov (.c (.int .i64 0))), none, []⟩] false (some [1])) (.seq (.seq (.region [⟨(some 6), (.load true 2 (.t 1)), none, []⟩, ⟨(some 7), (.call 11 [(.t 6)]), none, []⟩, ⟨(some 4), (.mov (.t 7)), none, []⟩] false (some [1, 4])) (.seq (.region [⟨(some 8), (.mov (.t 4)), none, []⟩, ⟨(some 9), (.bin .neq (.t 8) (.c (.int .i64 0))), none, []⟩] false (some [1, 4, 9])) (.cond (.t 9) (.seq (.region [⟨(some 10), (.mov (.t 4)), none, []⟩, ⟨(some 2), (.mov (.c (.str []))), none, []⟩, ⟨(some 3), (.mov (.t 10)), none, []⟩] false (some [2, 3])) .ret) .skip))) (.seq (.region [⟨(some 5), (.mov (.c .nils)), none, []⟩] false (some [1, 5])) (.seq (.seq (.region [⟨(some 11), (.faddr 0 (.t 1)), none, []⟩, ⟨(some 12), (.load false 1 (.t 11)), none, []⟩, ⟨(some 13), (.bin .neq (.t 12) (.c (.int .i64 3))), none, []⟩] false (some [1, 5, 13])) (.cond (.t 13) (.region [⟨(some 14), (.mov (.t 5)), none, []⟩, ⟨(some 15), (.faddr 0 (.t 1)), none, []⟩, ⟨(some 16), (.load false 1 (.t 15)), none, []⟩, ⟨(some 17), (.call 26 [(.t 16)]), none, []⟩, ⟨(some 18), (.bin .add (.c (.str [117, 61])) (.t 17)), none, []⟩, ⟨(some 19), (.lit false 1 1 [(.str [])] [(0, (1, (.t 18)))]), none, []⟩, ⟨(some 20), (.app 1 (.t 14) (.t 19)), none, []⟩, ⟨(some 5), (.mov (.t 20)), none, []⟩] false (some [1, 5])) .skip)) (.seq (.seq (.region [⟨(some 21), (.faddr 1 (.t 1)), none, []⟩, ⟨(some 22), (.load false 1 (.t 21)), none, []⟩] false (some [5, 22])) (.cond (.t 22) (.region [⟨(some 23), (.mov (.t 5)), none, []⟩, ⟨(some 24), (.lit false 1 1 [(.str [])] [(0, (1, (.c (.str [105]))))]), none, []⟩, ⟨(some 25), (.app 1 (.t 23) (.t 24)), none, []⟩, ⟨(some 5), (.mov (.t 25)), none, []⟩] false (some [5])) .skip)) (.seq (.region [⟨(some 26), (.mov (.t 5)), none, []⟩, ⟨(some 27), (.call 27 [(.t 26), (.c (.str [44, 32]))]), none, []⟩, ⟨(some 2), (.mov (.t 27)), none, []⟩, ⟨(some 3), (.mov (.c (.int .i64 0))), none, []⟩] false (some [2, 3])) .ret))))))⟩

/-- footman/prio.Check: number 11 -/
def f_prio_Check : RF :=
  ⟨1, 11, [(.t 2)], (.seq (.region [⟨(some 1), (.box 2 (.t 0)), none, []⟩, ⟨(some 2), (.mov (.c (.int .i64 0))), none, []⟩] false (some [1])) (.seq (.seq (.region [⟨(some 3), (.faddr 0 (.t 1)), none, []⟩, ⟨(some 4), (.load false 1 (.t 3)), none, []⟩, ⟨(some 5), (.bin .lss (.t 4) (.c (.int .i64 0))), none, []⟩, ⟨(some 6), (.mov (.t 5)), none, []⟩, ⟨(some 7), (.faddr 0 (.t 1)), (some (6, false)), []⟩, ⟨(some 8), (.load false 1 (.t 7)), (some (6, false)), []⟩, ⟨(some 9), (.bin .gtr (.t 8) (.c (.int .i64 7))), (some (6, false)), []⟩, ⟨(some 10), (.pick (.t 6) (.c (.bool true)) (.t 9)), none, []⟩] false (some [10])) (.cond (.t 10) (.seq (.region [⟨(some 2), (.mov (.c (.int .i64 8))), none, []⟩] false (some [2])) .ret) .skip)) (.seq (.region [⟨(some 2), (.mov (.c (.int .i64 0))), none, []⟩] false (some [2])) .ret)))⟩

/-- footman/prio.Less: number 13 -/
def f_prio_Less : RF :=
  ⟨2, 9, [(.t 4)], (.seq (.region [⟨(some 2), (.box 2 (.t 0)), none, []⟩, ⟨(some 3), (.box 2 (.t 1)), none, []⟩, ⟨(some 4), (.mov (.c (.bool false))), none, []⟩] false (some [2, 3])) (.seq (.region [⟨(some 5), (.load true 2 (.t 2)), none, []⟩, ⟨(some 6), (.load true 2 (.t 3)), none, []⟩, ⟨(some 7), (.call 28 [(.t 5), (.t 6)]), none, []⟩, ⟨(some 8), (.bin .lss (.t 7) (.c (.int .i64 0))), none, []⟩, ⟨(some 4), (.mov (.t 8)), none, []⟩] false (some [4])) .ret))⟩

/-- footman/prio.Usual: number 19 -/
def f_prio_Usual : RF :=
  ⟨0, 2, [(.c 0 true 2)], (.seq (.region [⟨(some 0), (.alloc [(.int .i64 0), (.bool false)]), none, []⟩] false (some [0])) (.seq (.region [⟨(some 1), (.build [(.int .i64 0), (.bool false)] [(0, (1, (.c (.int .i64 3))))]), none, []⟩, ⟨none, (.store 2 (.t 0) (.t 1)), none, []⟩] false (some [0])) .ret))⟩

/-- footman/prio.Parse: number 22 -/
def f_prio_Parse : RF :=
  ⟨1, 9, [(.c 2 true 2), (.t 3)], (.seq (.region [⟨(some 2), (.alloc [(.int .i64 0), (.bool false)]), none, []⟩, ⟨(some 3), (.mov (.c (.int .i64 0))), none, []⟩] false (some [0, 2])) (.seq (.region [⟨(some 4), (.call 19 []), none, []⟩, ⟨(some 5), (.mov (.t 0)), none, []⟩, ⟨(some 6), (.call 23 [(.t 4), (.t 5)]), none, []⟩, ⟨(some 7), (.ext 0 (.t 6)), none, []⟩, ⟨(some 8), (.ext 1 (.t 6)), none, []⟩, ⟨none, (.store 2 (.t 2) (.t 7)), none, []⟩, ⟨(some 3), (.mov (.t 8)), none, []⟩] false (some [2, 3])) .ret))⟩

/-- footman/prio.Merge: number 23 -/
def f_prio_Merge : RF :=
  ⟨2, 54, [(.c 4 true 2), (.t 5)], (.seq (.region [⟨(some 2), (.box 2 (.t 0)), none, []⟩, ⟨(some 4), (.alloc [(.int .i64 0), (.bool false)]), none, []⟩, ⟨(some 5), (.mov (.c (.int .i64 0))), none, []⟩] false (some [1, 2, 4])) (.seq (.seq (.region [⟨(some 12), (.load true 2 (.t 2)), none, []⟩, ⟨(some 13), (.call 11 [(.t 12)]), none, []⟩, ⟨(some 6), (.mov (.t 13)), none, []⟩] false (some [1, 2, 4, 6])) (.seq (.region [⟨(some 14), (.mov (.t 6)), none, []⟩, ⟨(some 15), (.bin .neq (.t 14) (.c (.int .i64 0))), none, []⟩] false (some [1, 2, 4, 6, 15])) (.cond (.t 15) (.seq (.region [⟨(some 16), (.build [(.int .i64 0), (.bool false)] []), none, []⟩, ⟨(some 17), (.mov (.t 6)), none, []⟩, ⟨none, (.store 2 (.t 4) (.t 16)), none, []⟩, ⟨(some 5), (.mov (.t 17)), none, []⟩] false (some [4, 5])) .ret) .skip))) (.seq (.region [⟨(some 19), (.mov (.t 1)), none, []⟩, ⟨(some 20), (.call 24 [(.t 19)]), none, []⟩, ⟨(some 18), (.mov (.t 20)), none, []⟩, ⟨(some 21), (.ext 0 (.t 18)), none, []⟩, ⟨(some 22), (.ext 1 (.t 18)), none, []⟩, ⟨(some 7), (.alloc [.nils]), none, []⟩, ⟨none, (.store 1 (.t 7) (.t 21)), none, []⟩, ⟨(some 8), (.mov (.t 22)), none, []⟩] false (some [2, 4, 7, 8])) (.seq (.seq (.region [⟨(some 23), (.mov (.t 8)), none, []⟩, ⟨(some 24), (.bin .neq (.t 23) (.c (.int .i64 0))), none, []⟩] false (some [2, 4, 7, 8, 24])) (.cond (.t 24) (.seq (.region [⟨(some 25), (.build [(.int .i64 0), (.bool false)] []), none, []⟩, ⟨(some 26), (.mov (.t 8)), none, []⟩, ⟨none, (.store 2 (.t 4) (.t 25)), none, []⟩, ⟨(some 5), (.mov (.t 26)), none, []⟩] false (some [4, 5])) .ret) .skip)) (.seq (.region [⟨(some 27), (.mkfn 31 [] [(.t 7)]), none, []⟩, ⟨(some 9), (.mov (.t 27)), none, []⟩] false (some [2, 4, 9])) (.seq (.seq (.region [⟨(some 29), (.mov (.t 9)), none, []⟩, ⟨(some 30), (.callv (.t 29) [(.c (.str [117]))]), none, []⟩, ⟨(some 31), (.call 32 [(.t 30)]), none, []⟩, ⟨(some 28), (.mov (.t 31)), none, []⟩, ⟨(some 32), (.ext 0 (.t 28)), none, []⟩, ⟨(some 33), (.ext 1 (.t 28)), none, []⟩, ⟨(some 10), (.mov (.t 32)), none, []⟩, ⟨(some 11), (.mov (.t 33)), none, []⟩] false (some [2, 4, 9, 10, 11])) (.seq (.region [⟨(some 34), (.mov (.t 11)), none, []⟩, ⟨(some 35), (.mov (.t 34)), none, []⟩, ⟨(some 36), (.mov (.t 10)), (some (35, true)), []⟩, ⟨(some 37), (.bin .geq (.t 36) (.c (.int .i64 0))), (some (35, true)), []⟩, ⟨(some 38), (.pick (.t 35) (.t 37) (.c (.bool false))), none, []⟩, ⟨(some 39), (.mov (.t 38)), none, []⟩, ⟨(some 40), (.mov (.t 10)), (some (39, true)), []⟩, ⟨(some 41), (.bin .leq (.t 40) (.c (.int .i64 7))), (some (39, true)), []⟩, ⟨(some 42), (.pick (.t 39) (.t 41) (.c (.bool false))), none, []⟩] false (some [2, 4, 9, 10, 42])) (.cond (.t 42) (.region [⟨(some 43), (.mov (.t 10)), none, []⟩, ⟨(some 44), (.faddr 0 (.t 2)), none, []⟩, ⟨none, (.store 1 (.t 44) (.t 43)), none, []⟩] false (some [2, 4, 9])) .skip))) (.seq (.seq (.region [⟨(some 45), (.mov (.t 9)), none, []⟩, ⟨(some 46), (.callv (.t 45) [(.c (.str [105]))]), none, []⟩] false (some [2, 4, 46])) (.block 0 (.seq (.region [⟨(some 48), (.bin .eql (.t 46) (.c (.str [63, 49]))), none, []⟩, ⟨(some 47), (.mov (.t 48)), none, []⟩] false (some [2, 4, 46, 47])) (.cond (.t 47) (.region [⟨(some 49), (.faddr 1 (.t 2)), none, []⟩, ⟨none, (.store 1 (.t 49) (.c (.bool true))), none, []⟩] false (some [2, 4])) (.seq (.region [⟨(some 51), (.bin .eql (.t 46) (.c (.str [63, 48]))), none, []⟩, ⟨(some 50), (.mov (.t 51)), none, []⟩] false (some [2, 4, 50])) (.cond (.t 50) (.region [⟨(some 52), (.faddr 1 (.t 2)), none, []⟩, ⟨none, (.store 1 (.t 52) (.c (.bool false))), none, []⟩] false (some [2, 4])) .skip)))))) (.seq (.region [⟨(some 53), (.load true 2 (.t 2)), none, []⟩, ⟨none, (.store 2 (.t 4) (.t 53)), none, []⟩, ⟨(some 5), (.mov (.c (.int .i64 0))), none, []⟩] false (some [4, 5])) .ret))))))))⟩

/-- footman/prio.Items: number 24 -/
def f_prio_Items : RF :=
  ⟨1, 38, [(.t 2), (.t 3)], (.seq (.region [⟨(some 2), (.mov (.c .nils)), none, []⟩, ⟨(some 3), (.mov (.c (.int .i64 0))), none, []⟩] false (some [0])) (.seq (.seq (.region [⟨(some 9), (.mov (.t 0)), none, []⟩, ⟨(some 10), (.lenS (.t 9)), none, []⟩, ⟨(some 11), (.bin .gtr (.t 10) (.c (.int .i64 200))), none, []⟩] false (some [0, 11])) (.cond (.t 11) (.seq (.region [⟨(some 2), (.mov (.c .nils)), none, []⟩, ⟨(some 3), (.mov (.c (.int .i64 5))), none, []⟩] false (some [2, 3])) .ret) .skip)) (.seq (.seq (.region [⟨(some 12), (.mov (.t 0)), none, []⟩, ⟨(some 13), (.call 33 [(.t 12), (.c (.str [32, 9]))]), none, []⟩, ⟨(some 14), (.bin .eql (.t 13) (.c (.str []))), none, []⟩] false (some [0, 14])) (.cond (.t 14) (.seq (.region [⟨(some 2), (.mov (.c .nils)), none, []⟩, ⟨(some 3), (.mov (.c (.int .i64 0))), none, []⟩] false (some [2, 3])) .ret) .skip)) (.seq (.region [⟨(some 4), (.mov (.c .nils)), none, []⟩] false (some [0, 4])) (.seq (.seq (.region [⟨(some 15), (.mov (.t 0)), none, []⟩, ⟨(some 16), (.call 34 [(.t 15), (.c (.str [44]))]), none, []⟩, ⟨(some 17), (.len (.t 16)), none, []⟩, ⟨(some 18), (.mov (.c (.int .i64 0))), none, []⟩] false (some [4, 16, 17, 18])) (.block 0 (.loop (.seq (.region [⟨(some 19), (.bin .lss (.t 18) (.t 17)), none, []⟩] false (some [4, 16, 17, 18, 19])) (.seq (.cond (.t 19) .skip (.exit 0)) (.seq (.block 1 (.seq (.region [⟨(some 20), (.iaddr 1 (.t 16) (.t 18)), none, []⟩, ⟨(some 21), (.load false 1 (.t 20)), none, []⟩, ⟨(some 6), (.mov (.t 21)), none, []⟩] false (some [4, 6, 16, 17, 18])) (.seq (.region [⟨(some 23), (.mov (.t 6)), none, []⟩, ⟨(some 24), (.call 35 [(.t 23)]), none, []⟩, ⟨(some 22), (.mov (.t 24)), none, []⟩, ⟨(some 25), (.ext 0 (.t 22)), none, []⟩, ⟨(some 26), (.ext 1 (.t 22)), none, []⟩, ⟨(some 7), (.alloc [(.str []), (.str [])]), none, []⟩, ⟨none, (.store 2 (.t 7) (.t 25)), none, []⟩, ⟨(some 8), (.mov (.t 26)), none, []⟩] false (some [4, 7, 8, 16, 17, 18])) (.seq (.seq (.region [⟨(some 27), (.mov (.t 8)), none, []⟩, ⟨(some 28), (.not (.t 27)), none, []⟩] false (some [4, 7, 16, 17, 18, 28])) (.cond (.t 28) (.seq (.region [⟨(some 2), (.mov (.c .nils)), none, []⟩, ⟨(some 3), (.mov (.c (.int .i64 4))), none, []⟩] false (some [2, 3])) .ret) .skip)) (.region [⟨(some 29), (.mov (.t 4)), none, []⟩, ⟨(some 30), (.load true 2 (.t 7)), none, []⟩, ⟨(some 31), (.lit false 2 1 [(.str []), (.str [])] [(0, (2, (.t 30)))]), none, []⟩, ⟨(some 32), (.app 2 (.t 29) (.t 31)), none, []⟩, ⟨(some 4), (.mov (.t 32)), none, []⟩] false (some [4, 16, 17, 18])))))) (.region [⟨(some 33), (.bin .add (.t 18) (.c (.int .i64 1))), none, []⟩, ⟨(some 18), (.mov (.t 33)), none, []⟩] false (some [4, 16, 17, 18])))))))) (.seq (.seq (.region [⟨(some 34), (.mov (.t 4)), none, []⟩, ⟨(some 35), (.len (.t 34)), none, []⟩, ⟨(some 36), (.bin .gtr (.t 35) (.c (.int .i64 16))), none, []⟩] false (some [4, 36])) (.cond (.t 36) (.seq (.region [⟨(some 2), (.mov (.c .nils)), none, []⟩, ⟨(some 3), (.mov (.c (.int .i64 7))), none, []⟩] false (some [2, 3])) .ret) .skip)) (.seq (.region [⟨(some 37), (.mov (.t 4)), none, []⟩, ⟨(some 2), (.mov (.t 37)), none, []⟩, ⟨(some 3), (.mov (.c (.int .i64 0))), none, []⟩] false (some [2, 3])) .ret)))))))⟩

/-- (footman/prio.Prio).compare: number 28 -/
def f_prio_Prio_compare : RF :=
  ⟨2, 25, [(.t 4)], (.seq (.region [⟨(some 2), (.box 2 (.t 0)), none, []⟩, ⟨(some 3), (.box 2 (.t 1)), none, []⟩, ⟨(some 4), (.mov (.c (.int .i64 0))), none, []⟩] false (some [2, 3])) (.seq (.block 0 (.seq (.region [⟨(some 6), (.faddr 0 (.t 2)), none, []⟩, ⟨(some 7), (.load false 1 (.t 6)), none, []⟩, ⟨(some 8), (.faddr 0 (.t 3)), none, []⟩, ⟨(some 9), (.load false 1 (.t 8)), none, []⟩, ⟨(some 10), (.bin .neq (.t 7) (.t 9)), none, []⟩, ⟨(some 5), (.mov (.t 10)), none, []⟩] false (some [2, 3, 5])) (.cond (.t 5) (.seq (.seq (.region [⟨(some 11), (.faddr 0 (.t 2)), none, []⟩, ⟨(some 12), (.load false 1 (.t 11)), none, []⟩, ⟨(some 13), (.faddr 0 (.t 3)), none, []⟩, ⟨(some 14), (.load false 1 (.t 13)), none, []⟩, ⟨(some 15), (.bin .lss (.t 12) (.t 14)), none, []⟩] false (some [15])) (.cond (.t 15) (.seq (.region [⟨(some 4), (.mov (.c (.int .i64 (-1)))), none, []⟩] false (some [4])) .ret) .skip)) (.seq (.region [⟨(some 4), (.mov (.c (.int .i64 1))), none, []⟩] false (some [4])) .ret)) (.seq (.region [⟨(some 17), (.faddr 1 (.t 2)), none, []⟩, ⟨(some 18), (.load false 1 (.t 17)), none, []⟩, ⟨(some 19), (.faddr 1 (.t 3)), none, []⟩, ⟨(some 20), (.load false 1 (.t 19)), none, []⟩, ⟨(some 21), (.eq false .bool (.t 18) (.t 20)), none, []⟩, ⟨(some 16), (.mov (.t 21)), none, []⟩] false (some [3, 16])) (.cond (.t 16) (.seq (.region [⟨(some 4), (.mov (.c (.int .i64 0))), none, []⟩] false (some [4])) .ret) (.seq (.region [⟨(some 23), (.faddr 1 (.t 3)), none, []⟩, ⟨(some 24), (.load false 1 (.t 23)), none, []⟩, ⟨(some 22), (.mov (.t 24)), none, []⟩] false (some [22])) (.cond (.t 22) (.seq (.region [⟨(some 4), (.mov (.c (.int .i64 (-1)))), none, []⟩] false (some [4])) .ret) .skip))))))) (.seq (.region [⟨(some 4), (.mov (.c (.int .i64 1))), none, []⟩] false (some [4])) .ret)))⟩

/-- footman/prio.Merge$1: number 31 -/
def f_prio_Merge_1 : RF :=
  ⟨2, 21, [(.t 3)], (.seq (.region [⟨(some 3), (.mov (.c (.str []))), none, []⟩] false (some [0, 1])) (.seq (.region [⟨(some 4), (.mov (.c (.str []))), none, []⟩] false (some [0, 1, 4])) (.seq (.seq (.region [⟨(some 7), (.load false 1 (.t 1)), none, []⟩, ⟨(some 8), (.len (.t 7)), none, []⟩, ⟨(some 9), (.mov (.c (.int .i64 0))), none, []⟩] false (some [0, 4, 7, 8, 9])) (.block 0 (.loop (.seq (.region [⟨(some 10), (.bin .lss (.t 9) (.t 8)), none, []⟩] false (some [0, 4, 7, 8, 9, 10])) (.seq (.cond (.t 10) .skip (.exit 0)) (.seq (.block 1 (.seq (.region [⟨(some 11), (.iaddr 2 (.t 7) (.t 9)), none, []⟩, ⟨(some 12), (.load true 2 (.t 11)), none, []⟩, ⟨(some 6), (.alloc [(.str []), (.str [])]), none, []⟩, ⟨none, (.store 2 (.t 6) (.t 12)), none, []⟩] false (some [0, 4, 6, 7, 8, 9])) (.seq (.region [⟨(some 13), (.faddr 0 (.t 6)), none, []⟩, ⟨(some 14), (.load false 1 (.t 13)), none, []⟩, ⟨(some 15), (.mov (.t 0)), none, []⟩, ⟨(some 16), (.bin .eql (.t 14) (.t 15)), none, []⟩] false (some [0, 4, 6, 7, 8, 9, 16])) (.cond (.t 16) (.region [⟨(some 17), (.faddr 1 (.t 6)), none, []⟩, ⟨(some 18), (.load false 1 (.t 17)), none, []⟩, ⟨(some 4), (.mov (.t 18)), none, []⟩] false (some [0, 4, 7, 8, 9])) .skip)))) (.region [⟨(some 19), (.bin .add (.t 9) (.c (.int .i64 1))), none, []⟩, ⟨(some 9), (.mov (.t 19)), none, []⟩] false (some [0, 4, 7, 8, 9])))))))) (.seq (.region [⟨(some 20), (.mov (.t 4)), none, []⟩, ⟨(some 3), (.mov (.t 20)), none, []⟩] false (some [3])) .ret))))⟩

/-- footman/prio.number: number 32 -/
def f_prio_number : RF :=
  ⟨1, 42, [(.t 2), (.t 3)], (.seq (.region [⟨(some 2), (.mov (.c (.int .i64 0))), none, []⟩, ⟨(some 3), (.mov (.c (.bool false))), none, []⟩] false (some [0])) (.seq (.region [⟨(some 10), (.mov (.t 0)), none, []⟩, ⟨(some 11), (.call 38 [(.t 10), (.c (.str [45]))]), none, []⟩, ⟨(some 9), (.mov (.t 11)), none, []⟩, ⟨(some 12), (.ext 0 (.t 9)), none, []⟩, ⟨(some 13), (.ext 1 (.t 9)), none, []⟩, ⟨(some 4), (.mov (.t 12)), none, []⟩, ⟨(some 5), (.mov (.t 13)), none, []⟩] false (some [4, 5])) (.seq (.seq (.region [⟨(some 14), (.mov (.t 4)), none, []⟩, ⟨(some 15), (.bin .eql (.t 14) (.c (.str []))), none, []⟩, ⟨(some 16), (.mov (.t 15)), none, []⟩, ⟨(some 17), (.mov (.t 4)), (some (16, false)), []⟩, ⟨(some 18), (.lenS (.t 17)), (some (16, false)), []⟩, ⟨(some 19), (.bin .gtr (.t 18) (.c (.int .i64 9))), (some (16, false)), []⟩, ⟨(some 20), (.pick (.t 16) (.c (.bool true)) (.t 19)), none, []⟩] false (some [4, 5, 20])) (.cond (.t 20) (.seq (.region [⟨(some 2), (.mov (.c (.int .i64 0))), none, []⟩, ⟨(some 3), (.mov (.c (.bool false))), none, []⟩] false (some [2, 3])) .ret) .skip)) (.seq (.region [⟨(some 6), (.mov (.c (.int .i64 0))), none, []⟩] false (some [4, 5, 6])) (.seq (.seq (.region [⟨(some 21), (.mov (.t 4)), none, []⟩, ⟨(some 22), (.s2b false (.t 21)), none, []⟩, ⟨(some 23), (.len (.t 22)), none, []⟩, ⟨(some 24), (.mov (.c (.int .i64 0))), none, []⟩] false (some [5, 6, 22, 23, 24])) (.block 0 (.loop (.seq (.region [⟨(some 25), (.bin .lss (.t 24) (.t 23)), none, []⟩] false (some [5, 6, 22, 23, 24, 25])) (.seq (.cond (.t 25) .skip (.exit 0)) (.seq (.block 1 (.seq (.region [⟨(some 26), (.iaddr 1 (.t 22) (.t 24)), none, []⟩, ⟨(some 27), (.load false 1 (.t 26)), none, []⟩, ⟨(some 8), (.mov (.t 27)), none, []⟩] false (some [5, 6, 8, 22, 23, 24])) (.seq (.seq (.region [⟨(some 28), (.mov (.t 8)), none, []⟩, ⟨(some 29), (.call 39 [(.t 28)]), none, []⟩, ⟨(some 30), (.bin .neq (.t 29) (.c (.int .i64 4))), none, []⟩] false (some [5, 6, 8, 22, 23, 24, 30])) (.cond (.t 30) (.seq (.region [⟨(some 2), (.mov (.c (.int .i64 0))), none, []⟩, ⟨(some 3), (.mov (.c (.bool false))), none, []⟩] false (some [2, 3])) .ret) .skip)) (.region [⟨(some 31), (.mov (.t 6)), none, []⟩, ⟨(some 32), (.bin .mul (.t 31) (.c (.int .i64 10))), none, []⟩, ⟨(some 33), (.mov (.t 8)), none, []⟩, ⟨(some 34), (.bin .sub (.t 33) (.c (.int .u8 48))), none, []⟩, ⟨(some 35), (.conv .i64 (.t 34)), none, []⟩, ⟨(some 36), (.bin .add (.t 32) (.t 35)), none, []⟩, ⟨(some 6), (.mov (.t 36)), none, []⟩] false (some [5, 6, 22, 23, 24]))))) (.region [⟨(some 37), (.bin .add (.t 24) (.c (.int .i64 1))), none, []⟩, ⟨(some 24), (.mov (.t 37)), none, []⟩] false (some [5, 6, 22, 23, 24])))))))) (.seq (.seq (.region [⟨(some 38), (.mov (.t 5)), none, []⟩] false (some [6, 38])) (.cond (.t 38) (.region [⟨(some 39), (.mov (.t 6)), none, []⟩, ⟨(some 40), (.neg (.t 39)), none, []⟩, ⟨(some 6), (.mov (.t 40)), none, []⟩] false (some [6])) .skip)) (.seq (.region [⟨(some 41), (.mov (.t 6)), none, []⟩, ⟨(some 2), (.mov (.t 41)), none, []⟩, ⟨(some 3), (.mov (.c (.bool true))), none, []⟩] false (some [2, 3])) .ret)))))))⟩

/-- footman/prio.item: number 35 -/
def f_prio_item : RF :=
  ⟨1, 25, [(.c 2 true 2), (.t 3)], (.seq (.region [⟨(some 2), (.alloc [(.str []), (.str [])]), none, []⟩, ⟨(some 3), (.mov (.c (.bool false))), none, []⟩] false (some [0, 2])) (.seq (.region [⟨(some 8), (.mov (.t 0)), none, []⟩, ⟨(some 9), (.call 33 [(.t 8), (.c (.str [32, 9]))]), none, []⟩, ⟨(some 10), (.call 48 [(.t 9), (.c (.str [61]))]), none, []⟩, ⟨(some 7), (.mov (.t 10)), none, []⟩, ⟨(some 11), (.ext 0 (.t 7)), none, []⟩, ⟨(some 12), (.ext 1 (.t 7)), none, []⟩, ⟨(some 13), (.ext 2 (.t 7)), none, []⟩, ⟨(some 4), (.mov (.t 11)), none, []⟩, ⟨(some 5), (.mov (.t 12)), none, []⟩, ⟨(some 6), (.mov (.t 13)), none, []⟩] false (some [2, 4, 5, 6])) (.seq (.seq (.region [⟨(some 14), (.mov (.t 6)), none, []⟩, ⟨(some 15), (.not (.t 14)), none, []⟩] false (some [2, 4, 5, 15])) (.cond (.t 15) (.region [⟨(some 5), (.mov (.c (.str [63, 49]))), none, []⟩] false (some [2, 4, 5])) .skip)) (.seq (.region [⟨(some 16), (.mov (.t 4)), none, []⟩, ⟨(some 17), (.mov (.t 5)), none, []⟩, ⟨(some 18), (.build [(.str []), (.str [])] [(0, (1, (.t 16))), (1, (1, (.t 17)))]), none, []⟩, ⟨(some 19), (.mov (.t 4)), none, []⟩, ⟨(some 20), (.call 49 [(.t 19), (.c (.int .i64 9)), (.c (.str [95, 45, 46]))]), none, []⟩, ⟨(some 21), (.mov (.t 20)), none, []⟩, ⟨(some 22), (.mov (.t 5)), (some (21, true)), []⟩, ⟨(some 23), (.call 50 [(.t 22)]), (some (21, true)), []⟩, ⟨(some 24), (.pick (.t 21) (.t 23) (.c (.bool false))), none, []⟩, ⟨none, (.store 2 (.t 2) (.t 18)), none, []⟩, ⟨(some 3), (.mov (.t 24)), none, []⟩] false (some [2, 3])) .ret))))⟩

/-- strings.CutPrefix: number 38 -/
def f_strings_CutPrefix : RF :=
  ⟨2, 11, [(.t 4), (.t 5)], (.seq (.region [⟨(some 4), (.mov (.c (.str []))), none, []⟩, ⟨(some 5), (.mov (.c (.bool false))), none, []⟩] false (some [0, 1])) (.seq (.region [⟨(some 6), (.mov (.t 0)), none, []⟩, ⟨(some 7), (.mov (.t 1)), none, []⟩, ⟨(some 8), (.call 56 [(.t 6), (.t 7)]), none, []⟩, ⟨(some 9), (.ext 0 (.t 8)), none, []⟩, ⟨(some 10), (.ext 1 (.t 8)), none, []⟩, ⟨(some 4), (.mov (.t 9)), none, []⟩, ⟨(some 5), (.mov (.t 10)), none, []⟩] false (some [4, 5])) .ret))⟩

/-- footman/prio.class: number 39 -/
def f_prio_class : RF :=
  ⟨1, 27, [(.t 2)], (.seq (.region [⟨(some 2), (.mov (.c (.int .i64 0))), none, []⟩] false (some [0])) (.seq (.block 0 (.seq (.region [⟨(some 4), (.mov (.t 0)), none, []⟩, ⟨(some 5), (.bin .geq (.t 4) (.c (.int .u8 97))), none, []⟩, ⟨(some 6), (.mov (.t 5)), none, []⟩, ⟨(some 7), (.mov (.t 0)), (some (6, true)), []⟩, ⟨(some 8), (.bin .leq (.t 7) (.c (.int .u8 122))), (some (6, true)), []⟩, ⟨(some 9), (.pick (.t 6) (.t 8) (.c (.bool false))), none, []⟩, ⟨(some 3), (.mov (.t 9)), none, []⟩] false (some [0, 3])) (.cond (.t 3) (.seq (.region [⟨(some 2), (.mov (.c (.int .i64 1))), none, []⟩] false (some [2])) .ret) (.seq (.region [⟨(some 11), (.mov (.t 0)), none, []⟩, ⟨(some 12), (.bin .geq (.t 11) (.c (.int .u8 65))), none, []⟩, ⟨(some 13), (.mov (.t 12)), none, []⟩, ⟨(some 14), (.mov (.t 0)), (some (13, true)), []⟩, ⟨(some 15), (.bin .leq (.t 14) (.c (.int .u8 90))), (some (13, true)), []⟩, ⟨(some 16), (.pick (.t 13) (.t 15) (.c (.bool false))), none, []⟩, ⟨(some 10), (.mov (.t 16)), none, []⟩] false (some [0, 10])) (.cond (.t 10) (.seq (.region [⟨(some 2), (.mov (.c (.int .i64 2))), none, []⟩] false (some [2])) .ret) (.seq (.region [⟨(some 18), (.mov (.t 0)), none, []⟩, ⟨(some 19), (.bin .geq (.t 18) (.c (.int .u8 48))), none, []⟩, ⟨(some 20), (.mov (.t 19)), none, []⟩, ⟨(some 21), (.mov (.t 0)), (some (20, true)), []⟩, ⟨(some 22), (.bin .leq (.t 21) (.c (.int .u8 57))), (some (20, true)), []⟩, ⟨(some 23), (.pick (.t 20) (.t 22) (.c (.bool false))), none, []⟩, ⟨(some 17), (.mov (.t 23)), none, []⟩] false (some [0, 17])) (.cond (.t 17) (.seq (.region [⟨(some 2), (.mov (.c (.int .i64 4))), none, []⟩] false (some [2])) .ret) (.seq (.region [⟨(some 25), (.mov (.t 0)), none, []⟩, ⟨(some 26), (.bin .eql (.t 25) (.c (.int .u8 42))), none, []⟩, ⟨(some 24), (.mov (.t 26)), none, []⟩] false (some [24])) (.cond (.t 24) (.seq (.region [⟨(some 2), (.mov (.c (.int .i64 8))), none, []⟩] false (some [2])) .ret) .skip))))))))) (.seq (.region [⟨(some 2), (.mov (.c (.int .i64 0))), none, []⟩] false (some [2])) .ret)))⟩

/-- footman/prio.word: number 49 -/
def f_prio_word : RF :=
  ⟨3, 42, [(.t 6)], (.seq (.region [⟨(some 6), (.mov (.c (.bool false))), none, []⟩] false (some [0, 1, 2])) (.seq (.seq (.region [⟨(some 10), (.mov (.t 0)), none, []⟩, ⟨(some 11), (.s2b false (.t 10)), none, []⟩, ⟨(some 12), (.len (.t 11)), none, []⟩, ⟨(some 13), (.mov (.c (.int .i64 0))), none, []⟩] false (some [0, 1, 2, 11, 12, 13])) (.block 0 (.loop (.seq (.region [⟨(some 14), (.bin .lss (.t 13) (.t 12)), none, []⟩] false (some [0, 1, 2, 11, 12, 13, 14])) (.seq (.cond (.t 14) .skip (.exit 0)) (.seq (.block 1 (.seq (.region [⟨(some 15), (.mov (.t 13)), none, []⟩, ⟨(some 16), (.iaddr 1 (.t 11) (.t 13)), none, []⟩, ⟨(some 17), (.load false 1 (.t 16)), none, []⟩, ⟨(some 7), (.mov (.t 15)), none, []⟩, ⟨(some 8), (.mov (.t 17)), none, []⟩] false (some [0, 1, 2, 7, 8, 11, 12, 13])) (.seq (.region [⟨(some 18), (.mov (.t 8)), none, []⟩, ⟨(some 19), (.call 39 [(.t 18)]), none, []⟩, ⟨(some 20), (.mov (.t 1)), none, []⟩, ⟨(some 21), (.bin .and (.t 19) (.t 20)), none, []⟩, ⟨(some 22), (.bin .neq (.t 21) (.c (.int .i64 0))), none, []⟩, ⟨(some 9), (.mov (.t 22)), none, []⟩] false (some [0, 1, 2, 7, 8, 9, 11, 12, 13])) (.seq (.seq (.region [⟨(some 23), (.mov (.t 7)), none, []⟩, ⟨(some 24), (.bin .gtr (.t 23) (.c (.int .i64 0))), none, []⟩] false (some [0, 1, 2, 8, 9, 11, 12, 13, 24])) (.cond (.t 24) (.region [⟨(some 25), (.mov (.t 9)), none, []⟩, ⟨(some 26), (.mov (.t 25)), none, []⟩, ⟨(some 27), (.mov (.t 8)), (some (26, false)), []⟩, ⟨(some 28), (.call 39 [(.t 27)]), (some (26, false)), []⟩, ⟨(some 29), (.bin .eql (.t 28) (.c (.int .i64 4))), (some (26, false)), []⟩, ⟨(some 30), (.pick (.t 26) (.c (.bool true)) (.t 29)), none, []⟩, ⟨(some 31), (.mov (.t 30)), none, []⟩, ⟨(some 32), (.mov (.t 2)), (some (31, false)), []⟩, ⟨(some 33), (.mov (.t 8)), (some (31, false)), []⟩, ⟨(some 34), (.call 65 [(.t 32), (.t 33)]), (some (31, false)), []⟩, ⟨(some 35), (.bin .geq (.t 34) (.c (.int .i64 0))), (some (31, false)), []⟩, ⟨(some 36), (.pick (.t 31) (.c (.bool true)) (.t 35)), none, []⟩, ⟨(some 9), (.mov (.t 36)), none, []⟩] false (some [0, 1, 2, 9, 11, 12, 13])) .skip)) (.seq (.region [⟨(some 37), (.mov (.t 9)), none, []⟩, ⟨(some 38), (.not (.t 37)), none, []⟩] false (some [0, 1, 2, 11, 12, 13, 38])) (.cond (.t 38) (.seq (.region [⟨(some 6), (.mov (.c (.bool false))), none, []⟩] false (some [6])) .ret) .skip)))))) (.region [⟨(some 39), (.bin .add (.t 13) (.c (.int .i64 1))), none, []⟩, ⟨(some 13), (.mov (.t 39)), none, []⟩] false (some [0, 1, 2, 11, 12, 13])))))))) (.seq (.region [⟨(some 40), (.mov (.t 0)), none, []⟩, ⟨(some 41), (.bin .neq (.t 40) (.c (.str []))), none, []⟩, ⟨(some 6), (.mov (.t 41)), none, []⟩] false (some [6])) .ret)))⟩

/-- footman/prio.bare: number 50 -/
def f_prio_bare : RF :=
  ⟨1, 21, [(.t 2)], (.seq (.region [⟨(some 2), (.mov (.c (.bool false))), none, []⟩] false (some [0])) (.seq (.seq (.region [⟨(some 6), (.mov (.t 0)), none, []⟩, ⟨(some 7), (.call 32 [(.t 6)]), none, []⟩, ⟨(some 5), (.mov (.t 7)), none, []⟩, ⟨(some 8), (.ext 0 (.t 5)), none, []⟩, ⟨(some 9), (.ext 1 (.t 5)), none, []⟩, ⟨(some 3), (.mov (.t 8)), none, []⟩, ⟨(some 4), (.mov (.t 9)), none, []⟩] false (some [0, 4])) (.seq (.region [⟨(some 10), (.mov (.t 4)), none, []⟩] false (some [0, 10])) (.cond (.t 10) (.seq (.region [⟨(some 2), (.mov (.c (.bool true))), none, []⟩] false (some [2])) .ret) .skip))) (.seq (.region [⟨(some 11), (.mov (.t 0)), none, []⟩, ⟨(some 12), (.bin .eql (.t 11) (.c (.str [63, 49]))), none, []⟩, ⟨(some 13), (.mov (.t 12)), none, []⟩, ⟨(some 14), (.mov (.t 0)), (some (13, false)), []⟩, ⟨(some 15), (.bin .eql (.t 14) (.c (.str [63, 48]))), (some (13, false)), []⟩, ⟨(some 16), (.pick (.t 13) (.c (.bool true)) (.t 15)), none, []⟩, ⟨(some 17), (.mov (.t 16)), none, []⟩, ⟨(some 18), (.mov (.t 0)), (some (17, false)), []⟩, ⟨(some 19), (.call 49 [(.t 18), (.c (.int .i64 11)), (.c (.str [95, 45, 46, 58, 47]))]), (some (17, false)), []⟩, ⟨(some 20), (.pick (.t 17) (.c (.bool true)) (.t 19)), none, []⟩, ⟨(some 2), (.mov (.t 20)), none, []⟩] false (some [2])) .ret)))⟩

/-- internal/stringslite.CutPrefix: number 56 -/
def f_internal_stringslite_CutPrefix : RF :=
  ⟨2, 15, [(.t 4), (.t 5)], (.seq (.region [⟨(some 4), (.mov (.c (.str []))), none, []⟩, ⟨(some 5), (.mov (.c (.bool false))), none, []⟩] false (some [0, 1])) (.seq (.seq (.region [⟨(some 6), (.mov (.t 0)), none, []⟩, ⟨(some 7), (.mov (.t 1)), none, []⟩, ⟨(some 8), (.call 67 [(.t 6), (.t 7)]), none, []⟩, ⟨(some 9), (.not (.t 8)), none, []⟩] false (some [0, 1, 9])) (.cond (.t 9) (.seq (.region [⟨(some 10), (.mov (.t 0)), none, []⟩, ⟨(some 4), (.mov (.t 10)), none, []⟩, ⟨(some 5), (.mov (.c (.bool false))), none, []⟩] false (some [4, 5])) .ret) .skip)) (.seq (.region [⟨(some 11), (.mov (.t 0)), none, []⟩, ⟨(some 12), (.mov (.t 1)), none, []⟩, ⟨(some 13), (.lenS (.t 12)), none, []⟩, ⟨(some 14), (.subS (.t 11) (some (.t 13)) none), none, []⟩, ⟨(some 4), (.mov (.t 14)), none, []⟩, ⟨(some 5), (.mov (.c (.bool true))), none, []⟩] false (some [4, 5])) .ret)))⟩

/-- internal/stringslite.HasPrefix: number 67 -/
def f_internal_stringslite_HasPrefix : RF :=
  ⟨2, 18, [(.t 4)], (.seq (.region [⟨(some 4), (.mov (.c (.bool false))), none, []⟩] false (some [0, 1])) (.seq (.region [⟨(some 5), (.mov (.t 0)), none, []⟩, ⟨(some 6), (.lenS (.t 5)), none, []⟩, ⟨(some 7), (.mov (.t 1)), none, []⟩, ⟨(some 8), (.lenS (.t 7)), none, []⟩, ⟨(some 9), (.bin .geq (.t 6) (.t 8)), none, []⟩, ⟨(some 10), (.mov (.t 9)), none, []⟩, ⟨(some 11), (.mov (.t 0)), (some (10, true)), []⟩, ⟨(some 12), (.mov (.t 1)), (some (10, true)), []⟩, ⟨(some 13), (.lenS (.t 12)), (some (10, true)), []⟩, ⟨(some 14), (.subS (.t 11) none (some (.t 13))), (some (10, true)), []⟩, ⟨(some 15), (.mov (.t 1)), (some (10, true)), []⟩, ⟨(some 16), (.bin .eql (.t 14) (.t 15)), (some (10, true)), []⟩, ⟨(some 17), (.pick (.t 10) (.t 16) (.c (.bool false))), none, []⟩, ⟨(some 4), (.mov (.t 17)), none, []⟩] false (some [4])) .ret))⟩

end Go.Cs
