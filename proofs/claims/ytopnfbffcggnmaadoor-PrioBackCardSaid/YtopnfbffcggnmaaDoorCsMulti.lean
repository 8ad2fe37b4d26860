/- Regions whose order Go does not fix, told in more than one order. -/
import Derived.Test.YtopnfbffcggnmaaDoorCsAny
namespace Go.Cs
open Go.RowKit (Below)
variable {P : Program} {fid : FuncId → Option Nat} {N : Nat} {w0 : World} {X : Cx} {cw : CW} {w : World} {ρ : Env} {a : Act} {K : Nat → Ct} {pure : Nat → Bool} {G : Nat → World → Prop}

theorem wpOp_conj (hKO : KOk K pure) {o : ROp} {ρ : Env} {cw : CW} {ι : Type} (i0 : ι) {Q : ι → CV → CW → Prop} (h : ∀ i, wpOp K o ρ cw (Q i)) : wpOp K o ρ cw fun v cw' => ∀ i, Q i v cw' := by
  unfold wpOp at *
  split
  · obtain ⟨vs, h1, _⟩ := h i0
    refine ⟨vs, h1, hKO.conj _ ι _ _ _ i0 fun i => ?_⟩
    obtain ⟨vs', h2, h3⟩ := h i
    rw [h1] at h2; cases h2; exact h3
  · obtain ⟨g, f, c, vs, h1, h2, _⟩ := h i0
    refine ⟨g, f, c, vs, h1, h2, hKO.conj _ ι _ _ _ i0 fun i => ?_⟩
    obtain ⟨g', f', c', vs', h3, h4, h5⟩ := h i
    rw [h1] at h3; cases h3
    rw [h2] at h4; cases h4; exact h5
  · rename_i hc hv
    have h' : ∀ i, ∃ r, stepOp o (ev ρ) cw = some r ∧ Q i r.1 r.2 := by
      intro i
      have := h i
      split at this
      · exact absurd rfl (hc _ _)
      · exact absurd rfl (hv _ _)
      · exact this
    obtain ⟨r, h1, _⟩ := h' i0
    refine ⟨r, h1, fun i => ?_⟩
    obtain ⟨r', h2, h3⟩ := h' i
    rw [h1] at h2; cases h2; exact h3

theorem wpG_conj (hKO : KOk K pure) {o : RO} {ρ : Env} {cw : CW} {ι : Type} (i0 : ι) {Q : ι → CV → CW → Prop} (h : ∀ i, wpG K o ρ cw (Q i)) : wpG K o ρ cw fun v cw' => ∀ i, Q i v cw' := by
  obtain ⟨b, hb, _⟩ := h i0
  refine ⟨b, hb, ?_⟩
  have h' : ∀ i, if b then wpOp K o.op ρ cw (Q i) else Q i (.tup []) cw := by
    intro i
    obtain ⟨b', hb', h⟩ := h i
    rw [hb] at hb'; cases hb'; exact h
  cases b
  · exact fun i => by simpa using h' i
  · exact wpOp_conj hKO i0 fun i => by simpa using h' i

def atR (l : List RO) (i : Nat) : RO := (l[i]?).getD default

/-- An order without one operation that could as well come first. -/
def takeFront (pure : Nat → Bool) (l : List RO) (y : Nat) : List Nat → Option (List Nat)
  | [] => none
  | i :: r => if i = y then some r else if indep pure (atR l i) (atR l y) then (takeFront pure l y r).map (i :: ·) else none

/-- Do some orders stand for all that Go may take? -/
def cover (pure : Nat → Bool) (l : List RO) : Nat → List Nat → List (List Nat) → Bool
  | 0, rem, os => rem.isEmpty && os.any List.isEmpty
  | n + 1, rem, os => !os.isEmpty && if rem.isEmpty then os.any List.isEmpty else rem.all fun y => if (atR l y).after.all (fun k => !rem.contains k) then cover pure l n (rem.filter (· != y)) (os.filterMap (takeFront pure l y)) else true

def multiOk (pure : Nat → Bool) (l : List RO) (os : List (List Nat)) : Bool :=
  (l.zipIdx.all fun x => x.1.after.all fun k => decide (k < x.2)) && cover pure l l.length (List.range l.length) os

theorem cover_ne {l : List RO} {n : Nat} {rem : List Nat} {os : List (List Nat)} (h : cover pure l n rem os = true) : ∃ o, o ∈ os := by
  cases os with
  | nil => cases n <;> simp [cover] at h
  | cons o os => exact ⟨o, List.mem_cons_self ..⟩

theorem takeFront_spec {l : List RO} {y : Nat} : ∀ {o o' : List Nat}, takeFront pure l y o = some o' → ∃ pre post, o = pre ++ y :: post ∧ o' = pre ++ post ∧ ∀ i ∈ pre, indep pure (atR l i) (atR l y) = true
  | [], o', h => by cases h
  | i :: r, o', h => by
    simp only [takeFront] at h
    split at h
    · rename_i hi
      cases h
      exact ⟨[], r, by simp [hi], rfl, by simp⟩
    · split at h
      · rename_i hind
        obtain ⟨o2, h2, rfl⟩ := Option.map_eq_some_iff.1 h
        obtain ⟨pre, post, rfl, rfl, h3⟩ := takeFront_spec h2
        refine ⟨i :: pre, post, rfl, rfl, fun k hk => ?_⟩
        rcases List.mem_cons.1 hk with rfl | hk
        · exact hind
        · exact h3 k hk
      · cases h

theorem ready_iff {own : List Nat} {n : Nat} {ops : Array Oper} {l : List RO}
    (hl : ∀ (i : Nat) (o : Oper), ops[i]? = some o → ∃ r : RO, l[i]? = some r ∧ OpR P fid own n ops true o r) (listed : Array Bool) (i : Nat) (hs : listed.size = ops.size) : (i ∈ Region.ready .any ops listed ↔ i < ops.size ∧ listed.getD i true = false ∧ ∀ r, l[i]? = some r → ∀ k ∈ r.after, listed.getD k false = true) := by
    simp only [Region.ready, List.mem_filter, List.mem_range, Bool.and_eq_true, Bool.not_eq_true']
    constructor
    · rintro ⟨h1, h2, h3⟩
      refine ⟨h1, h2, fun r hr k hk => ?_⟩
      obtain ⟨r', hr', hor⟩ := hl i ops[i] (Array.getElem?_eq_getElem h1)
      rw [hr] at hr'; cases hr'
      rw [Array.getElem?_eq_getElem h1] at h3
      simp only [Option.map_some, Option.getD_some] at h3
      rw [hor.after] at hk
      simp only [resAfter, if_true, List.mem_map, List.mem_filter] at hk
      obtain ⟨e, ⟨he1, he2⟩, rfl⟩ := hk
      have := Array.all_eq_true_iff_forall_mem.1 h3 e (by simpa using he1)
      simpa [he2] using this
    · rintro ⟨h1, h2, h3⟩
      refine ⟨h1, h2, ?_⟩
      obtain ⟨r, hr, hor⟩ := hl i ops[i] (Array.getElem?_eq_getElem h1)
      rw [Array.getElem?_eq_getElem h1]
      simp only [Option.map_some, Option.getD_some]
      refine Array.all_eq_true_iff_forall_mem.2 fun e he => ?_
      cases hb : Region.binds .any e
      · rfl
      · have := h3 r hr e.on (by rw [hor.after]; simp only [resAfter, if_true, List.mem_map, List.mem_filter]; exact ⟨e, ⟨by simpa using he, hb⟩, rfl⟩)
        simp [this]

theorem region_multi (hK : KSound P fid G K) (hG : G N w0) (hKO : KOk K pure) {own : List Nat} {n : Nat} {ops : Array Oper} {X0 : Cx} {w1 : World} {Q : RE → Env → CW → Prop} {live : List Nat} {l : List RO}
    (hl : ∀ (i : Nat) (o : Oper), ops[i]? = some o → ∃ r : RO, l[i]? = some r ∧ OpR P fid own n ops true o r) (hsz : l.length = ops.size) (ha : ∀ (i : Nat) (r : RO), l[i]? = some r → ∀ k ∈ r.after, k < i) :
    ∀ (fuel : Nat) {listed : Array Bool} {os : List (List Nat)} {X : Cx} {cw : CW} {w : World} {ρ : Env} {a : Act}, listed.size = ops.size →
      cover pure l fuel ((List.range ops.size).filter (fun i => !listed.getD i true)) os = true →
      St fid N w0 X0 w1 n X cw w ρ a → (∀ o ∈ os, wpl K (o.map (atR l)) ρ cw (fun ρ' cw' => Q .nx (ρ'.keep (some live)) cw')) →
      wpAny P .any ops (Res fid N w0 X0 w1 n Q) fuel listed a w := by
  have hQ : ∀ ρ1 ρ2 cw, EnvEq ρ1 ρ2 → (fun ρ' cw' => Q .nx (ρ'.keep (some live)) cw') ρ1 cw → (fun ρ' cw' => Q .nx (ρ'.keep (some live)) cw') ρ2 cw := by
    intro ρ1 ρ2 cw he h
    show Q .nx (ρ2.keep (some live)) cw
    rw [← keep_eq he]
    exact h
  have hend : ∀ {os : List (List Nat)} {X : Cx} {cw : CW} {w : World} {ρ : Env} {a : Act}, os.any List.isEmpty = true → St fid N w0 X0 w1 n X cw w ρ a →
      (∀ o ∈ os, wpl K (o.map (atR l)) ρ cw (fun ρ' cw' => Q .nx (ρ'.keep (some live)) cw')) → Res fid N w0 X0 w1 n Q .normal a w := by
    intro os X cw w ρ a he hS hw
    obtain ⟨o, ho, he⟩ := List.any_eq_true.1 he
    have := hw o ho
    rw [List.isEmpty_iff.1 he] at this
    exact ⟨.nx, X, _, cw, rfl, ⟨hS.sim, hS.ext, hS.env.keep (some live), hS.size, hS.nodef⟩, this⟩
  have hfirst : ∀ {listed : Array Bool}, listed.size = ops.size → Region.ready .any ops listed = [] → (List.range ops.size).filter (fun i => !listed.getD i true) = [] := by
    intro listed hls hr
    cases hj : (List.range ops.size).filter (fun i => !listed.getD i true) with
    | nil => rfl
    | cons i rest =>
      exfalso
      have hsort : ((List.range ops.size).filter (fun i => !listed.getD i true)).Pairwise (· < ·) := List.Pairwise.filter _ List.pairwise_lt_range
      have hi : i ∈ (List.range ops.size).filter (fun i => !listed.getD i true) := by rw [hj]; exact List.mem_cons_self ..
      have hi' := hi
      rw [List.mem_filter, List.mem_range] at hi'
      have hmem : i ∈ Region.ready .any ops listed := by
        refine (ready_iff hl listed i hls).2 ⟨hi'.1, by simpa using hi'.2, fun r hr k hk => ?_⟩
        have hki := ha i r hr k hk
        refine Classical.byContradiction fun hn => ?_
        have hkj : k ∈ (List.range ops.size).filter (fun i => !listed.getD i true) := by
          rw [List.mem_filter, List.mem_range]
          refine ⟨by omega, ?_⟩
          have hk' : k < listed.size := by omega
          rw [getD_tf hk']
          simpa using hn
        rw [hj] at hkj hsort
        rcases List.mem_cons.1 hkj with rfl | hkr
        · omega
        · have := (List.pairwise_cons.1 hsort).1 k hkr; omega
      rw [hr] at hmem
      cases hmem
  intro fuel
  induction fuel with
  | zero =>
    intro listed os X cw w ρ a hls hc hS hw
    simp only [cover, Bool.and_eq_true] at hc
    have hj := List.isEmpty_iff.1 hc.1
    have hr : Region.ready .any ops listed = [] := by
      refine List.eq_nil_iff_forall_not_mem.2 fun i hi => ?_
      obtain ⟨h1, h2, _⟩ := (ready_iff hl listed i hls).1 hi
      have : i ∈ (List.range ops.size).filter (fun i => !listed.getD i true) := by rw [List.mem_filter, List.mem_range]; exact ⟨h1, by simp [h2]⟩
      rw [hj] at this; cases this
    exact ⟨hr, hend hc.2 hS hw⟩
  | succ fuel ih =>
    intro listed os X cw w ρ a hls hc hS hw
    simp only [cover, Bool.and_eq_true] at hc
    replace hc := hc.2
    refine ⟨fun hr => ?_, fun y hy => ?_⟩
    · rw [hfirst hls hr] at hc
      exact hend (by simpa using hc) hS hw
    · obtain ⟨h1, h2, h3⟩ := (ready_iff hl listed y hls).1 hy
      have hyj : y ∈ (List.range ops.size).filter (fun i => !listed.getD i true) := by rw [List.mem_filter, List.mem_range]; exact ⟨h1, by simp [h2]⟩
      rw [if_neg (by intro he; rw [List.isEmpty_iff.1 he] at hyj; cases hyj)] at hc
      have hcy := List.all_eq_true.1 hc y hyj
      obtain ⟨r, hr, hor⟩ := hl y ops[y] (Array.getElem?_eq_getElem h1)
      have hat : atR l y = r := by simp [atR, hr]
      rw [hat, if_pos (by
        refine List.all_eq_true.2 fun k hk => ?_
        have hk1 := h3 r hr k hk
        have hk2 := ha y r hr k hk
        have hk' : k < listed.size := by omega
        simp only [Bool.not_eq_true', List.contains_eq_mem, decide_eq_false_iff_not, List.mem_filter, not_and]
        intro _
        rw [getD_tf hk', hk1]; simp)] at hcy
      simp only [Go.wpOp, Array.getElem?_eq_getElem h1]
      have hfam : wpG K r ρ cw fun c cw' => ∀ o' ∈ os.filterMap (takeFront pure l y), wpl K (o'.map (atR l)) (ρ.put r.dst c) cw' (fun ρ' cw' => Q .nx (ρ'.keep (some live)) cw') := by
        obtain ⟨o1, ho1⟩ := cover_ne hcy
        have h := wpG_conj hKO (ι := { o' : List Nat // o' ∈ os.filterMap (takeFront pure l y) }) (o := r) (ρ := ρ) (cw := cw) ⟨o1, ho1⟩
          (Q := fun o' c cw' => wpl K (o'.1.map (atR l)) (ρ.put r.dst c) cw' (fun ρ' cw' => Q .nx (ρ'.keep (some live)) cw')) (fun o' => by
            obtain ⟨o, ho, hto⟩ := List.mem_filterMap.1 o'.2
            obtain ⟨pre, post, rfl, he, hind⟩ := takeFront_spec hto
            have h1 := hw _ ho
            rw [List.map_append, List.map_cons, hat] at h1
            have h2 := wpl_cons.1 (wpl_front hKO hQ _ (fun x hx => by
              obtain ⟨i, hi, rfl⟩ := List.mem_map.1 hx
              have := hind i hi
              rwa [hat] at this) h1)
            rw [he, List.map_append]
            exact h2)
        exact wpG_mono hKO (fun v cw' hv o' ho' => hv ⟨o', ho'⟩) h
      refine opG_ok hK hG hor hS hfam fun c cw' X' w' a' hq hs => ?_
      have hget : ∀ (k : Nat) (b : Bool), (listed.setIfInBounds y true).getD k b = if k = y then true else listed.getD k b := by
        intro k b
        simp only [Array.getD_eq_getD_getElem?, Array.getElem?_setIfInBounds]
        by_cases hk : k = y
        · subst hk
          simp [hls, h1]
        · rw [if_neg (fun h => hk h.symm), if_neg hk]
      refine ih (by simp [hls]) ?_ hs hq
      have e1 : (fun k => !(listed.setIfInBounds y true).getD k true) = fun k => decide (k ≠ y) && (!listed.getD k true) := by
        funext k
        rw [hget]
        by_cases hk : k = y
        · simp [hk]
        · simp [hk]
      rw [e1, ← List.filter_filter]
      have e2 : (fun k => decide (k ≠ y)) = (fun k : Nat => k != y) := by funext k; by_cases hk : k = y <;> simp [hk]
      rw [e2]
      exact hcy

end Go.Cs
