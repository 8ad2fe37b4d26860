/- Regions whose order Go does not fix. -/
import Derived.Test.YtopnfbffcggnmaaDoorCsRun
namespace Go.Cs
open Go.RowKit (Below)
variable {P : Program} {fid : FuncId → Option Nat} {N : Nat} {w0 : World} {X : Cx} {cw : CW} {w : World} {ρ : Env} {a : Act} {K : Nat → Ct} {pure : Nat → Bool} {G : Nat → World → Prop}

def maskOf (acc : List Nat) (as : List Nat) : Nat := as.foldl (fun m k => m ||| (1 <<< k) ||| acc.getD k 0) 0

def drawGo (pure : Nat → Bool) (prev : List RO) (acc : List Nat) : List RO → Bool
  | [] => true
  | r :: l => r.after.all (fun k => decide (k < prev.length)) && (prev.zipIdx.all fun x => (maskOf acc r.after).testBit x.2 || indep pure x.1 r) &&
    drawGo pure (prev ++ [r]) (acc ++ [maskOf acc r.after]) l

/-- May a region's operations be told in the text's order? -/
def drawOk (pure : Nat → Bool) (l : List RO) : Bool := drawGo pure [] [] l

inductive Anc (full : List RO) : Nat → Nat → Prop
  | one {i j : Nat} {r : RO} : full[i]? = some r → j ∈ r.after → Anc full i j
  | more {i j k : Nat} {r : RO} : full[i]? = some r → k ∈ r.after → Anc full k j → Anc full i j

theorem anc_listed {full : List RO} {L : Nat → Prop} (down : ∀ i r, full[i]? = some r → L i → ∀ k ∈ r.after, L k) {i j : Nat} (h : Anc full i j) :
    (∀ r, full[i]? = some r → ∀ k ∈ r.after, L k) → L j := by
  induction h with
  | one hr hj => exact fun hi => hi _ hr _ hj
  | more hr hk _ ih => exact fun hi => ih fun r hr' => down _ r hr' (hi _ hr _ hk)

theorem maskOf_spec {acc as : List Nat} {j : Nat} (h : (maskOf acc as).testBit j = true) : j ∈ as ∨ ∃ k ∈ as, (acc.getD k 0).testBit j = true := by
  have key : ∀ (as : List Nat) (m : Nat), (as.foldl (fun m k => m ||| (1 <<< k) ||| acc.getD k 0) m).testBit j = true → m.testBit j = true ∨ j ∈ as ∨ ∃ k ∈ as, (acc.getD k 0).testBit j = true := by
    intro as
    induction as with
    | nil => intro m h; exact .inl h
    | cons k as ih =>
      intro m h
      rcases ih _ h with h | h | ⟨k', h1, h2⟩
      · rw [Nat.testBit_or, Nat.testBit_or, Bool.or_eq_true, Bool.or_eq_true] at h
        rcases h with (h | h) | h
        · exact .inl h
        · rw [Nat.testBit_shiftLeft, Bool.and_eq_true] at h
          have : j - k = 0 := by
            have := h.2
            rcases Nat.eq_zero_or_pos (j - k) with h0 | h0
            · exact h0
            · rw [Nat.testBit_one_eq_true_iff_self_eq_zero] at this; omega
          have hj : k ≤ j := by simpa using h.1
          have : j = k := by omega
          subst this
          exact .inr (.inl (List.mem_cons_self ..))
        · exact .inr (.inr ⟨k, List.mem_cons_self .., h⟩)
      · exact .inr (.inl (List.mem_cons_of_mem _ h))
      · exact .inr (.inr ⟨k', List.mem_cons_of_mem _ h1, h2⟩)
  rcases key as 0 h with h | h
  · simp at h
  · exact h

theorem drawGo_spec {full : List RO} : ∀ (l prev : List RO) (acc : List Nat), full = prev ++ l → acc.length = prev.length → (∀ i j, (acc.getD i 0).testBit j = true → Anc full i j) →
    drawGo pure prev acc l = true → ∀ i r, l[i]? = some r → (∀ k ∈ r.after, k < prev.length + i) ∧ ∀ j x, full[j]? = some x → j < prev.length + i → Anc full (prev.length + i) j ∨ indep pure x r = true
  | [], prev, acc, _, _, _, _, i, r, hr => by simp at hr
  | r0 :: l, prev, acc, hf, hl, ha, h, i, r, hr => by
    simp only [drawGo, Bool.and_eq_true] at h
    obtain ⟨⟨h1, h2⟩, h3⟩ := h
    have hat : full[prev.length]? = some r0 := by rw [hf]; simp
    have hanc : ∀ j, (maskOf acc r0.after).testBit j = true → Anc full prev.length j := by
      intro j hj
      rcases maskOf_spec hj with hj | ⟨k, hk, hj⟩
      · exact .one hat hj
      · exact .more hat hk (ha _ _ hj)
    cases i with
    | zero =>
      simp only [List.getElem?_cons_zero, Option.some.injEq] at hr
      subst hr
      refine ⟨fun k hk => by simpa using List.all_eq_true.1 h1 k hk, fun j x hx hj => ?_⟩
      have hj' : j < prev.length := hj
      have hx' : prev[j]? = some x := by rw [← hx, hf, List.getElem?_append_left hj']
      have := List.all_eq_true.1 h2 (x, j) (by rw [List.mem_zipIdx_iff_getElem?]; exact hx')
      rw [Bool.or_eq_true] at this
      rcases this with h | h
      · exact .inl (hanc j h)
      · exact .inr h
    | succ i =>
      simp only [List.getElem?_cons_succ] at hr
      have := drawGo_spec (full := full) l (prev ++ [r0]) (acc ++ [maskOf acc r0.after]) (by rw [hf]; simp) (by simp [hl]) (fun i j hj => ?_) h3 i r hr
      · have e : (prev ++ [r0]).length + i = prev.length + (i + 1) := by simp; omega
        rw [e] at this
        exact this
      · rw [List.getD_eq_getElem?_getD, List.getElem?_append] at hj
        split at hj
        · exact ha i j (by rw [List.getD_eq_getElem?_getD]; exact hj)
        · rename_i hi
          rcases Nat.lt_or_ge (i - acc.length) 1 with h0 | h0
          · have : i = prev.length := by omega
            subst this
            rw [hl, Nat.sub_self] at hj
            exact hanc j (by simpa using hj)
          · rw [List.getElem?_eq_none (by simpa using h0)] at hj
            simp at hj

theorem getD_tf {l : Array Bool} {k : Nat} (h : k < l.size) : l.getD k true = l.getD k false := by simp [Array.getD, h]

theorem keep_eq {ρ ρ' : Env} (h : EnvEq ρ ρ') (l : List Nat) : ρ.keep (some l) = ρ'.keep (some l) := by
  simp only [Env.keep]
  congr 1
  funext t
  rw [h t]

/-- In any order. -/
theorem region_any (hK : KSound P fid G K) (hG : G N w0) (hKO : KOk K pure) {own : List Nat} {n : Nat} {ops : Array Oper} {X0 : Cx} {w1 : World} {Q : RE → Env → CW → Prop} {live : List Nat} {l : List RO}
    (hl : ∀ (i : Nat) (o : Oper), ops[i]? = some o → ∃ r : RO, l[i]? = some r ∧ OpR P fid own n ops true o r) (hsz : l.length = ops.size)
    (hd : ∀ i r, l[i]? = some r → (∀ k ∈ r.after, k < i) ∧ ∀ j x, l[j]? = some x → j < i → Anc l i j ∨ indep pure x r = true) :
    ∀ (fuel : Nat) {listed : Array Bool} {js : List Nat} {X : Cx} {cw : CW} {w : World} {ρ : Env} {a : Act}, js.length ≤ fuel → listed.size = ops.size →
      js = (List.range ops.size).filter (fun i => !listed.getD i true) → (∀ i r, l[i]? = some r → listed.getD i false = true → ∀ k ∈ r.after, listed.getD k false = true) →
      St fid N w0 X0 w1 n X cw w ρ a → wpl K (js.map fun i => (l[i]?).getD default) ρ cw (fun ρ' cw' => Q .nx (ρ'.keep (some live)) cw') →
      wpAny P .any ops (Res fid N w0 X0 w1 n Q) fuel listed a w := by
  have hQ : ∀ ρ1 ρ2 cw, EnvEq ρ1 ρ2 → (fun ρ' cw' => Q .nx (ρ'.keep (some live)) cw') ρ1 cw → (fun ρ' cw' => Q .nx (ρ'.keep (some live)) cw') ρ2 cw := by
    intro ρ1 ρ2 cw he h
    show Q .nx (ρ2.keep (some live)) cw
    rw [← keep_eq he]
    exact h
  have hready : ∀ (listed : Array Bool) (i : Nat), listed.size = ops.size → (i ∈ Region.ready .any ops listed ↔ i < ops.size ∧ listed.getD i true = false ∧ ∀ r, l[i]? = some r → ∀ k ∈ r.after, listed.getD k false = true) := by
    intro listed i hs
    simp only [Region.ready, List.mem_filter, List.mem_range, Bool.and_eq_true, Bool.not_eq_true']
    constructor
    · rintro ⟨h1, h2, h3⟩
      refine ⟨h1, h2, fun r hr k hk => ?_⟩
      obtain ⟨r', hr', hor⟩ := hl i ops[i] (Array.getElem?_eq_getElem h1)
      rw [hr] at hr'; cases hr'
      rw [Array.getElem?_eq_getElem h1] at h3
      simp only [Option.map_some, Option.getD_some] at h3
      rw [hor.after] at hk
      simp only [resAfter, if_true, List.mem_map, List.mem_filter] at hk
      obtain ⟨e, ⟨he1, he2⟩, rfl⟩ := hk
      have := Array.all_eq_true_iff_forall_mem.1 h3 e (by simpa using he1)
      simpa [he2] using this
    · rintro ⟨h1, h2, h3⟩
      refine ⟨h1, h2, ?_⟩
      obtain ⟨r, hr, hor⟩ := hl i ops[i] (Array.getElem?_eq_getElem h1)
      rw [Array.getElem?_eq_getElem h1]
      simp only [Option.map_some, Option.getD_some]
      refine Array.all_eq_true_iff_forall_mem.2 fun e he => ?_
      cases hb : Region.binds .any e
      · rfl
      · have := h3 r hr e.on (by rw [hor.after]; simp only [resAfter, if_true, List.mem_map, List.mem_filter]; exact ⟨e, ⟨by simpa using he, hb⟩, rfl⟩)
        simp [this]
  intro fuel
  have hnone : ∀ {listed : Array Bool} {js : List Nat} {X : Cx} {cw : CW} {w : World} {ρ : Env} {a : Act}, listed.size = ops.size →
      js = (List.range ops.size).filter (fun i => !listed.getD i true) → 
      St fid N w0 X0 w1 n X cw w ρ a → wpl K (js.map fun i => (l[i]?).getD default) ρ cw (fun ρ' cw' => Q .nx (ρ'.keep (some live)) cw') → Region.ready .any ops listed = [] → Res fid N w0 X0 w1 n Q .normal a w := by
    intro listed js X cw w ρ a hls hjs hS hw hr
    cases hj : js with
    | nil =>
      rw [hj] at hw
      exact ⟨.nx, X, _, cw, rfl, ⟨hS.sim, hS.ext, hS.env.keep (some live), hS.size, hS.nodef⟩, hw⟩
    | cons i rest =>
      exfalso
      have hsort : js.Pairwise (· < ·) := by rw [hjs]; exact List.Pairwise.filter _ List.pairwise_lt_range
      have hi : i ∈ js := by rw [hj]; exact List.mem_cons_self ..
      have hi' := hi
      rw [hjs, List.mem_filter, List.mem_range] at hi'
      have hmem : i ∈ Region.ready .any ops listed := by
        refine (hready listed i hls).2 ⟨hi'.1, by simpa using hi'.2, fun r hr k hk => ?_⟩
        have hki := (hd i r hr).1 k hk
        refine Classical.byContradiction fun hn => ?_
        have hkj : k ∈ js := by
          rw [hjs, List.mem_filter, List.mem_range]
          refine ⟨by omega, ?_⟩
          have hk' : k < listed.size := by omega
          rw [getD_tf hk']
          simpa using hn
        rw [hj] at hkj hsort
        rcases List.mem_cons.1 hkj with rfl | hkr
        · omega
        · have := (List.pairwise_cons.1 hsort).1 k hkr; omega
      rw [hr] at hmem
      cases hmem
  induction fuel with
  | zero =>
    intro listed js X cw w ρ a hf hls hjs hdown hS hw
    have hj : js = [] := List.length_eq_zero_iff.1 (by omega)
    have hr : Region.ready .any ops listed = [] := by
      refine List.eq_nil_iff_forall_not_mem.2 fun i hi => ?_
      obtain ⟨h1, h2, _⟩ := (hready listed i hls).1 hi
      have : i ∈ js := by rw [hjs, List.mem_filter, List.mem_range]; exact ⟨h1, by simp [h2]⟩
      rw [hj] at this; cases this
    exact ⟨hr, hnone hls hjs hS hw hr⟩
  | succ fuel ih =>
    intro listed js X cw w ρ a hf hls hjs hdown hS hw
    refine ⟨fun hr => hnone hls hjs hS hw hr, fun i hi => ?_⟩
    obtain ⟨h1, h2, h3⟩ := (hready listed i hls).1 hi
    have hij : i ∈ js := by rw [hjs, List.mem_filter, List.mem_range]; exact ⟨h1, by simp [h2]⟩
    obtain ⟨pre, post, hpp⟩ := List.append_of_mem hij
    have hsort : js.Pairwise (· < ·) := by rw [hjs]; exact List.Pairwise.filter _ List.pairwise_lt_range
    obtain ⟨r, hr, hor⟩ := hl i ops[i] (Array.getElem?_eq_getElem h1)
    have hlt : ∀ j ∈ pre, j < i := by
      rw [hpp, List.pairwise_append] at hsort
      exact fun j hj => hsort.2.2 j hj i (List.mem_cons_self ..)
    have hgt : ∀ j ∈ post, i < j := by
      rw [hpp, List.pairwise_append, List.pairwise_cons] at hsort
      exact fun j hj => hsort.2.1.1 j hj
    have hin : ∀ x ∈ pre.map (fun i => (l[i]?).getD default), indep pure x r = true := by
      intro x hx
      obtain ⟨j, hj, rfl⟩ := List.mem_map.1 hx
      have hji := hlt j hj
      have hjs' : j ∈ js := by rw [hpp]; exact List.mem_append_left _ hj
      rw [hjs, List.mem_filter, List.mem_range] at hjs'
      have hlj : l[j]? = some l[j] := List.getElem?_eq_getElem (by omega)
      rw [hlj]
      simp only [Option.getD_some]
      rcases (hd i r hr).2 j _ hlj hji with h | h
      · exfalso
        have := anc_listed (L := fun k => listed.getD k false = true) hdown h h3
        have hk' : j < listed.size := by omega
        rw [getD_tf hk', this] at hjs'
        simp at hjs'
      · exact h
    rw [hpp] at hw
    simp only [List.map_append, List.map_cons] at hw
    have hri : (l[i]?).getD default = r := by rw [hr]; rfl
    rw [hri] at hw
    have hw2 := wpl_cons.1 (wpl_front hKO hQ _ hin hw)
    simp only [Go.wpOp, Array.getElem?_eq_getElem h1]
    refine opG_ok hK hG hor hS hw2 fun c cw' X' w' a' hq hs => ?_
    have hget : ∀ (k : Nat) (b : Bool), (listed.setIfInBounds i true).getD k b = if k = i then true else listed.getD k b := by
      intro k b
      simp only [Array.getD_eq_getD_getElem?, Array.getElem?_setIfInBounds]
      by_cases hk : k = i
      · subst hk
        simp [hls, h1]
      · rw [if_neg (fun h => hk h.symm), if_neg hk]
    refine ih (js := pre ++ post) (by rw [hpp] at hf; simp at hf ⊢; omega) (by simp [hls]) ?_ ?_ hs (by rw [List.map_append]; exact hq)
    · have e1 : (fun k => !(listed.setIfInBounds i true).getD k true) = fun k => decide (k ≠ i) && (!listed.getD k true) := by
        funext k
        rw [hget]
        by_cases hk : k = i
        · simp [hk]
        · simp [hk]
      rw [e1, ← List.filter_filter, ← hjs, hpp, List.filter_append, List.filter_cons]
      rw [List.filter_eq_self.2 (fun j hj => by have := hlt j hj; simp; omega), List.filter_eq_self.2 (fun j hj => by have := hgt j hj; simp; omega)]
      simp
    · intro k rk hrk hk m hm
      have hkm : listed.getD m false = true := by
        rw [hget] at hk
        by_cases hki : k = i
        · rw [hki, hr] at hrk; cases hrk
          exact h3 _ hr m hm
        · rw [if_neg hki] at hk
          exact hdown k rk hrk hk m hm
      rw [hget, hkm]
      simp

end Go.Cs
