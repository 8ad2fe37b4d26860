/- PrioSorts: for every input the law answers true; each argument reads afterwards as before. Conditions: those of the given row and card alone (the listed package variables as the program's text lays them). -/
import Derived.Test.YtopnfbffcggnmaaDoorM5
import Derived.ChangeArms
import Derived.OpenShut
import Derived.Handed
import Derived.LaidLaws
import Derived.LaidMore
import Derived.Stop.Joined
import Derived.Test.YtopnfbffcggnmaaDoorRows
import Derived.Test.YtopnfbffcggnmaaDoorTie
import Derived.Test.YtopnfbffcggnmaaDoorCards
import Derived.Shelf.Vars
import Derived.Lay
import Derived.LaidOnce
import Derived.SevenTiedAt
/- prio: the document's order; what is held against it. -/
namespace Go.Cs
variable {K : Nat → Ct} {Q : RE → Env → CW → Prop}

theorem ints_take (zs : List Int) (k : Nat) : (ints zs).take k = ints (zs.take k) := by simp [ints, List.map_take]
theorem ints_drop (zs : List Int) (k : Nat) : (ints zs).drop k = ints (zs.drop k) := by simp [ints, List.map_drop]
theorem ints_append (a b : List Int) : ints (a ++ b) = ints a ++ ints b := by simp [ints]

set_option maxHeartbeats 2000000 in
/-- The place is found: the row is made anew. -/
theorem rsort_put {ks : List Key} {n i k : Nat} {kv out : CV} {cw1 cw : CW} {s : List Fr} (hn : n ≤ 60) (hi : i < n) (hk : k ≤ i) (hnx : cw1.next ≤ cw.next) (hkeep : ∀ b, b < cw1.next → cw.get b = cw1.get b)
    (hout : (i = 0 ∧ out = .nils) ∨ ∃ b, 0 < i ∧ out = .ref b 0 i 1 ∧ cw.get b = some (.cells (ints (srt ks (rangeI i)))) ∧ cw1.next ≤ b ∧ b < cw.next)
    (fin : ∀ (b : Nat) (cw' : CW), cw'.get b = some (.cells (ints ((srt ks (rangeI i)).take k ++ (i : Int) :: (srt ks (rangeI i)).drop k))) → cw1.next ≤ b → b < cw'.next → (∀ b, b < cw1.next → cw'.get b = cw1.get b) →
      nxt K Q s [(0, kv), (3, .ref b 0 (i + 1) 1), (4, .int .i64 i)] cw') :
    wpk K Q f_footmanref38_Sort_q2 s [(0, kv), (3, out), (4, .int .i64 i), (5, .int .i64 k), (6, .nils)] cw := by
  have hlim : lim = 68719476736 := by decide
  have hlim1 : (1 : Nat) ≤ lim := by omega
  have hlk : k ≤ lim := by omega
  have hlk1 : k + 1 ≤ lim := by omega
  have hli : i ≤ lim := by omega
  have hsl : (srt ks (rangeI i)).length = i := by rw [srt_length, rangeI_length]
  have c3 : ∀ (x : CW) (o : CO) (b : Nat), b < x.next → (x.push o).get b = x.get b := fun x o b hb => push_old (by omega)
  simp -implicitDefEqProofs only [f_footmanref38_Sort_q2, go_sem]
  intro o ho
  simp only [List.mem_cons, List.not_mem_nil, or_false] at ho
  rcases hout with ⟨rfl, rfl⟩ | ⟨b, hpos, rfl, hg, hb1, hb2⟩
  · have hk0 : k = 0 := by omega
    subst hk0
    have z1 : ((0 : Nat) : Int) = 0 := rfl
    have fin0 := fin cw.next (cw.push (.cells [.int .i64 0])) (by simp [go_sem, srt, rangeI, ints]) (by omega) (by simp only [go_sem]; omega) (fun b hb => by rw [push_old (by omega)]; exact hkeep b hb)
    rcases ho with rfl | rfl | rfl
    all_goals
      simp -implicitDefEqProofs only [List.map, Option.getD_some, go_sem, z1, hlim1]
      exact fin0
  · have hbn : (b = cw.next) = False := by simp; omega
    have hbn1 : (b = cw.next + 1) = False := by simp; omega
    have hcl : (ints (srt ks (rangeI i))).length = i := by rw [ints_length, hsl]
    obtain ⟨L, hL⟩ : ∃ L, srt ks (rangeI i) = L := ⟨_, rfl⟩
    rw [hL] at hg fin hsl hcl
    have tk : ∀ m, (ints L).take m = ints (L.take m) := ints_take L
    have dp : ∀ m, (ints L).drop m = ints (L.drop m) := ints_drop L
    have hle0 : (0 : Int) ≤ (k : Int) := by omega
    have hki : (k : Int) ≤ i := by omega
    have hki' : k ≤ i := hk
    have hkk : ∀ (cw2 : CW), (∀ b', b' < cw.next → cw2.get b' = cw.get b') → ∀ b', b' < cw1.next → cw2.get b' = cw1.get b' := fun cw2 h b' hb' => by rw [h b' (by omega)]; exact hkeep b' hb'
    have i00 : ((0 : Int) ≤ 0) = True := by simp
    have tki : (ints L).take i = ints L := by rw [← hcl]; exact List.take_length
    have k0 : (0 : Int) ≤ (k : Int) := by omega
    by_cases hkz : k = 0
    · subst hkz
      have z1 : ((0 : Nat) : Int) = 0 := rfl
      have hi0 : ((0 : Int) = (i : Int)) = False := by simp; omega
      have hi1 : (i = 0) = False := by simp; omega
      have hi2 : ¬ (1 + i ≤ 1) := by omega
      have hi3 : 1 + i ≤ lim := by omega
      have hi4 : (0 : Int) ≤ (i : Int) := by omega
      have fin0 := fin (cw.next + 1) (((cw.push (.cells [.int .i64 i])).kill cw.next).push (.cells (.int .i64 i :: ints L))) (by simp [go_sem, ints]) (by omega) (by simp only [go_sem]; omega) (hkk _ fun b' hb' => by
        rw [push_old (by simp only [go_sem]; omega), kill_old (by omega), push_old (by omega)])
      rw [show i + 1 = 1 + i by omega] at fin0
      rcases ho with rfl | rfl | rfl
      all_goals
        simp -implicitDefEqProofs only [List.map, Option.getD_some, go_sem, hg, hcl, z1, ne_eq, not_true_eq_false, i00, and_false, hi0, hi1, hi2, hi3, hi4, hbn, hbn1, Nat.sub_zero, hlim1, false_and, not_false_eq_true, Nat.zero_le, List.take_zero]
        rw [tki]
        exact fin0
    · have hk0 : ((k : Int) = 0) = False := by simp; omega
      have hk01 : (k = 0) = False := by simp; omega
      have h0k : ((0 : Int) = (k : Int)) = False := by simp; omega
      have hk2 : ¬ (k + 1 ≤ k) := by omega
      have e1 : (L.take k).length = k := by simp; omega
      by_cases hke : k = i
      · subst hke
        have kk : ((k : Int) ≤ (k : Int)) = True := by simp
        have fin0 := fin (cw.next + 1) (((cw.push (.cells (ints L))).kill cw.next).push (.cells (ints L ++ [.int .i64 k]))) (by simp [go_sem, ints, ← hsl]) (by omega) (by simp only [go_sem]; omega) (hkk _ fun b' hb' => by
          rw [push_old (by simp only [go_sem]; omega), kill_old (by omega), push_old (by omega)])
        rcases ho with rfl | rfl | rfl
        all_goals
          simp -implicitDefEqProofs only [List.map, Option.getD_some, go_sem, hg, hcl, ne_eq, not_true_eq_false, i00, and_false, hk0, hk01, h0k, hk2, k0, hbn, hbn1, Nat.sub_zero, hlim1, hlk, hlk1, false_and, not_false_eq_true, Nat.zero_le, List.take_zero, tki, kk]
          exact fin0
      · have kk : ((k : Int) ≤ (i : Int)) = True := by simp; omega
        have hki2 : ((k : Int) = (i : Int)) = False := by simp; omega
        have z3 : (i - k = 0) = False := by simp; omega
        have z4 : k + 1 + (i - k) ≤ lim := by omega
        have z5 : ¬ (k + 1 + (i - k) ≤ k + 1) := by omega
        have z6 : k + (i - k) = i := by omega
        have hn1 : (cw.next + 1 + 1 = cw.next) = False := by simp; omega
        have hl2 : (ints (L.take k) ++ [CV.int .i64 i]).length = k + 1 := by simp [ints_length]; omega
        have tk2 : (ints (L.drop k)).take (i - k) = ints (L.drop k) := by
          have : (ints (L.drop k)).length = i - k := by rw [ints_length]; simp; omega
          rw [← this]; exact List.take_length
        have hl3 : (ints (L.take k)).length = k := by rw [ints_length, e1]
        have fin0 := fin (cw.next + 1 + 1) (((((cw.push (.cells (ints (L.take k)))).kill cw.next).push (.cells (ints (L.take k) ++ [.int .i64 i]))).kill (cw.next + 1)).push (.cells (ints (L.take k) ++ [.int .i64 i] ++ ints (L.drop k))))
          (by simp [go_sem, ints]) (by omega) (by simp only [go_sem]; omega) (hkk _ fun b' hb' => by
          rw [push_old (by simp only [go_sem]; omega), kill_old (by omega), push_old (by simp only [go_sem]; omega), kill_old (by omega), push_old (by omega)])
        rw [show i + 1 = k + 1 + (i - k) by omega] at fin0
        rcases ho with rfl | rfl | rfl
        all_goals
          simp -implicitDefEqProofs only [List.map, Option.getD_some, go_sem, hg, hcl, ne_eq, not_true_eq_false, i00, and_false, hk0, hk01, h0k, hk2, k0, hbn, hbn1, Nat.sub_zero, hlim1, hlk, hlk1, false_and, not_false_eq_true, Nat.zero_le, List.take_zero, tk, dp, e1, kk, hki', hki2, z3, z4, z5, z6, tk2, hl2, hl3, ints_length, hn1]
          exact fin0

set_option maxHeartbeats 2000000 in
theorem rsort_runs (h14 : K 14 = pureC lessF) : ∀ args v, sortF args = some v → args.length = f_footmanref38_Sort.np ∧ ∀ cw, Runs K f_footmanref38_Sort args cw v := by
  have key : ∀ (a : CV) (ks : List Key) (n : Nat), ks.length = n → n ≤ 60 → (a = .nils ∧ n = 0 ∨ ∃ clip, a = .vec (keyCells ks) n clip) → ∀ cw, Runs K f_footmanref38_Sort [a] cw (sortV ks) := by
    intro a ks n hln hn ha cw Q hQ
    have fin : ∀ (cw' : CW) c, Frz cw.next cw' c (sortV ks) → (∀ b, b < cw.next → cw'.get b = cw.get b) → Q .ret [(2, c)] cw' := fun cw' c hf hk => hQ .ret _ _ _ (.inr rfl) rfl hf hk
    clear hQ
    have hlen : ∀ (cw' : CW), stepOp (.len (.c a)) (fun | .c v => some v | _ => none) cw' = some (.int .i64 n, cw') := by
      intro cw'
      rcases ha with ⟨rfl, rfl⟩ | ⟨clip, rfl⟩ <;> rfl
    have alen : (match a with | .nils => some (CV.int .i64 0, cw) | .vec _ n _ => some (CV.int .i64 n, cw) | .ref _ _ n _ => some (CV.int .i64 n, cw) | _ => none) = some (.int .i64 n, cw) := by
      rcases ha with ⟨rfl, rfl⟩ | ⟨clip, rfl⟩ <;> rfl
    simp -implicitDefEqProofs only [f_footmanref38_Sort, f_footmanref38_Sort_q4, go_sem]
    refine wpk_loop (fun q ρ cw' => ∃ (i : Nat) (out : CV), q = n - i ∧ i ≤ n ∧ ρ = [(0, a), (3, out), (4, .int .i64 i)] ∧ (∀ b, b < cw.next → cw'.get b = cw.get b) ∧ cw.next ≤ cw'.next ∧
      ((i = 0 ∧ out = .nils) ∨ ∃ b, 0 < i ∧ out = .ref b 0 i 1 ∧ cw'.get b = some (.cells (ints (srt ks (rangeI i)))) ∧ cw.next ≤ b ∧ b < cw'.next)) n ⟨0, .nils, by omega, by omega, rfl, fun _ _ => rfl, by omega, .inl ⟨rfl, rfl⟩⟩ ?_
    rintro q ρ cw' N ⟨i, out, rfl, hi, rfl, hk, hnx, hout⟩ hN
    have w1 : IntKind.wrap .i64 ((i : Int) + 1) = ((i + 1 : Nat) : Int) := by rw [wrap_i64 (by omega) (by omega)]; omega
    have done : i = n → Q .ret [(2, out)] cw' := by
      intro hin
      subst hin
      refine fin _ _ ?_ hk
      rcases hout with ⟨rfl, rfl⟩ | ⟨b, hpos, rfl, hgb, hb1, hb2⟩
      · rw [sortV, if_pos (by omega)]; exact .nils
      · rw [sortV, if_neg (by omega), hln]
        exact frz_ints hb1 hgb (by rw [srt_length, rangeI_length])
    rcases ha with ⟨rfl, rfl⟩ | ⟨clip, rfl⟩
    · have hi0 : i = 0 := by omega
      subst hi0
      have hf : decide (((0 : Nat) : Int) < 0) = false := by decide
      simp -implicitDefEqProofs only [go_sem, hf]
      exact done rfl
    simp -implicitDefEqProofs only [go_sem]
    cases hlt : decide ((i : Int) < n)
    · simp only [decide_eq_false_iff_not] at hlt
      simp -implicitDefEqProofs only [go_sem]
      exact done (by omega)
    simp only [decide_eq_true_eq] at hlt
    have hil : i < n := by omega
    have hsl : (srt ks (rangeI i)).length = i := by rw [srt_length, rangeI_length]
    have hin : 0 ≤ (i : Int) ∧ (i : Int) < n := by omega
    have ai := keyCells_at ks i (by omega)
    simp only [ldc, if_true] at ai
    -- the place
    have loop : wpk K Q (.loop f_footmanref38_Sort_q1) [.blk 2, .code (.seq (.region [⟨some 6, .mov (.c .nils), none, []⟩] false (some [0, 3, 4, 5, 6])) f_footmanref38_Sort_q2), .blk 1, .code (.region [⟨some 11, .mov (.t 4), none, []⟩, ⟨some 12, .bin .add (.t 11) (.c (.int .i64 1)), none, []⟩, ⟨some 4, .mov (.t 12), none, []⟩] false (some [0, 3, 4])), .hook N, .blk 0, .code (.seq (.region [⟨some 46, .mov (.t 3), none, []⟩, ⟨some 2, .mov (.t 46), none, []⟩] false (some [2])) .ret)]
        [(0, .vec (keyCells ks) n clip), (3, out), (4, .int .i64 i), (5, .int .i64 i)] cw' := by
      refine wpk_loop (fun q ρ cw'' => ∃ k : Nat, q = k ∧ k ≤ i ∧ (k < i → ltI ks i (zAt (srt ks (rangeI i)) k) = true) ∧ ρ = [(0, .vec (keyCells ks) n clip), (3, out), (4, .int .i64 i), (5, .int .i64 k)] ∧ cw'' = cw') i ⟨i, rfl, by omega, fun h => absurd h (by omega), rfl, rfl⟩ ?_
      rintro k ρ cw'' N2 ⟨_, rfl, hki, hkl, rfl, rfl⟩ hN2
      have put : (0 < k → ltI ks i (zAt (srt ks (rangeI i)) (k - 1)) = false) → ∀ x, wpk K Q (.seq (.region [⟨some 6, .mov (.c .nils), none, []⟩] false (some [0, 3, 4, 5, 6])) f_footmanref38_Sort_q2) [.blk 1, .code (.region [⟨some 11, .mov (.t 4), none, []⟩, ⟨some 12, .bin .add (.t 11) (.c (.int .i64 1)), none, []⟩, ⟨some 4, .mov (.t 12), none, []⟩] false (some [0, 3, 4])), .hook N, .blk 0, .code (.seq (.region [⟨some 46, .mov (.t 3), none, []⟩, ⟨some 2, .mov (.t 46), none, []⟩] false (some [2])) .ret)]
          [(0, .vec (keyCells ks) n clip), (3, out), (4, .int .i64 i), (5, .int .i64 k), x] cw'' := by
        intro hkf x
        have hins : (srt ks (rangeI i)).take k ++ (i : Int) :: (srt ks (rangeI i)).drop k = srt ks (rangeI (i + 1)) := by
          refine srt_unique ?_ (srt_insert (by rw [List.take_append_drop]; exact srt_sorted ks _) (fun v hv => ?_) fun v hv => ?_)
          · refine List.perm_middle.trans ?_
            rw [List.take_append_drop, rangeI_succ]
            exact ((srt_perm ks _).cons _).trans (List.perm_append_singleton ..).symm
          · have hp : 0 < k := by
              rcases Nat.eq_zero_or_pos k with rfl | h
              · simp at hv
              · exact h
            have h1 := zAt_last (A := []) (R := (srt ks (rangeI i)).drop k) hv
            rw [List.nil_append, List.take_append_drop] at h1
            have e : ([] : List Int).length + ((srt ks (rangeI i)).take k).length - 1 = k - 1 := by simp; omega
            rw [e] at h1
            have h2 := hkf hp
            rw [h1] at h2
            have h3 := rangeI_mem ((srt_perm ks _).mem_iff.1 (List.mem_of_mem_take (List.mem_of_getLast? hv)))
            exact leI_of_not h2 (by omega)
          · have h1 := zAt_head (A := (srt ks (rangeI i)).take k) (R := []) hv
            rw [List.append_nil, List.take_append_drop] at h1
            have e : ((srt ks (rangeI i)).take k).length = k := by simp; omega
            rw [e] at h1
            have hki2 : k < i := by
              rcases Nat.lt_or_ge k i with h | h
              · exact h
              · rw [List.drop_of_length_le (by omega)] at hv; cases hv
            have h2 := hkl hki2
            rw [h1] at h2
            exact leI_of_lt h2
        simp -implicitDefEqProofs only [go_sem]
        refine rsort_put (cw1 := cw) hn hil hki hnx hk hout fun b cw3 hgb hb1 hb2 hkk => ?_
        rw [hins] at hgb
        simp -implicitDefEqProofs only [go_sem, w1]
        exact hN (n - (i + 1)) _ _ (by omega) ⟨i + 1, _, rfl, by omega, rfl, hkk, by omega, .inr ⟨b, by omega, rfl, hgb, hb1, hb2⟩⟩
      simp -implicitDefEqProofs only [f_footmanref38_Sort_q1, go_sem]
      cases hkp : decide ((k : Int) > 0)
      · simp only [decide_eq_false_iff_not] at hkp
        have := put (fun h => absurd h (by omega)) (31, .bool false)
        simp -implicitDefEqProofs only [go_sem] at this ⊢
        exact this
      · simp only [decide_eq_true_eq] at hkp
        rcases hout with ⟨h0, _⟩ | ⟨b, hpos, hob, hgb, hb1, hb2⟩
        · omega
        have wk : IntKind.wrap .i64 ((k : Int) - 1) = ((k - 1 : Nat) : Int) := wsub1 (by omega) (by omega)
        have hr : 0 ≤ ((k - 1 : Nat) : Int) ∧ ((k - 1 : Nat) : Int) < i := by omega
        have hat := ints_at (zs := srt ks (rangeI i)) (h := k - 1) (by omega)
        have hzm := rangeI_mem ((srt_perm ks _).mem_iff.1 (zAt_mem (zs := srt ks (rangeI i)) (h := k - 1) (by omega)))
        obtain ⟨z, hz⟩ : ∃ z, zAt (srt ks (rangeI i)) (k - 1) = z := ⟨_, rfl⟩
        rw [hz] at hat hzm
        have hzr : 0 ≤ z ∧ z < n := by omega
        have az := keyCells_at ks z.toNat (by omega)
        simp only [ldc, if_true] at az
        have hcmp : decide (cmpI ((ks.getD i (0, false)).1, (ks.getD i (0, false)).2) ((ks.getD z.toNat (0, false)).1, (ks.getD z.toNat (0, false)).2) < 0) = ltI ks i z := cmpI_lt ks i z
        subst hob
        simp -implicitDefEqProofs only [go_sem, hin, wk, hr, hgb, hat, hzr, ai, az, wpa_pure h14, lessF, hcmp]
        cases hc : ltI ks i z
        · have := put (fun _ => by rw [hz]; exact hc) (31, .bool false)
          simp -implicitDefEqProofs only [go_sem] at this ⊢
          exact this
        · simp -implicitDefEqProofs only [go_sem, wk]
          exact hN2 (k - 1) _ _ (by omega) ⟨k - 1, rfl, by omega, fun _ => by rw [hz]; exact hc, rfl, rfl⟩
    simp -implicitDefEqProofs only [f_footmanref38_Sort_q3, go_sem]
    rcases hout with ⟨rfl, rfl⟩ | ⟨b, hpos, rfl, hgb, hb1, hb2⟩
    · simp -implicitDefEqProofs only [go_sem]
      exact loop
    · simp -implicitDefEqProofs only [go_sem]
      exact loop
  intro args v h
  unfold sortF at h
  split at h
  · cases h
    exact ⟨rfl, key _ [] 0 rfl (by omega) (.inl ⟨rfl, rfl⟩)⟩
  · rename_i cs n clip
    simp only [Option.bind_eq_some_iff] at h
    obtain ⟨ks, hks, h⟩ := h
    split at h
    case isFalse => cases h
    rename_i hc
    cases h
    rw [keysOf_spec hks]
    exact ⟨rfl, key _ ks n hc.1 hc.2 (.inr ⟨clip, rfl⟩)⟩
  · cases h

end Go.Cs

/- prio: PrioSorts' own run. -/
namespace Go.Cs
variable {K : Nat → Ct} {Q : RE → Env → CW → Prop}

/-! ## own, SameInts, the document's Print -/
def ownF : List CV → Option CV
  | [.nils] => some .nils
  | [.vec cs n _] => (keysOf cs).bind fun ks => if ks.length = n ∧ n ≤ 60 then some (if n = 0 then .nils else .vec (keyCells ks) n false) else none
  | _ => none
def sameF : List CV → Option CV
  | [.nils, .nils] => some (.bool true)
  | [.vec cs n _, .vec ds m _] => (intsOf cs).bind fun zs => (intsOf ds).bind fun ws => if zs = ws ∧ zs.length = n ∧ m = n ∧ n ≤ 1000 then some (.bool true) else none
  | _ => none

theorem same_runs : ∀ args v, sameF args = some v → args.length = f_footmanref15_SameInts.np ∧ ∀ cw, Runs K f_footmanref15_SameInts args cw v := by
  intro args v h
  unfold sameF at h
  split at h
  · cases h
    refine ⟨rfl, fun cw Q hQ => ?_⟩
    have fin : Q .ret [(4, .bool true)] cw := hQ .ret _ _ _ (.inr rfl) rfl (.bool _) (fun _ _ => rfl)
    have hf : decide ((0 : Int) < 0) = false := by decide
    simp -implicitDefEqProofs only [f_footmanref15_SameInts, go_sem]
    refine wpk_loop (fun m ρ cw' => ρ = [(0, .nils), (1, .nils), (5, .int .i64 0)] ∧ cw' = cw) 0 ⟨rfl, rfl⟩ ?_
    rintro m ρ cw' N ⟨rfl, rfl⟩ hN
    simp -implicitDefEqProofs only [go_sem, hf]
    exact fin
  · rename_i cs n c1 ds m c2
    simp only [Option.bind_eq_some_iff] at h
    obtain ⟨zs, hzs, ws, hws, h⟩ := h
    split at h
    case isFalse => cases h
    rename_i hc
    obtain ⟨rfl, hl, rfl, hn⟩ := hc
    cases h
    rw [intsOf_spec hzs, intsOf_spec hws]
    refine ⟨rfl, fun cw Q hQ => ?_⟩
    have fin : Q .ret [(4, .bool true)] cw := hQ .ret _ _ _ (.inr rfl) rfl (.bool _) (fun _ _ => rfl)
    simp -implicitDefEqProofs only [f_footmanref15_SameInts, go_sem]
    refine wpk_loop (fun q ρ cw' => ∃ i : Nat, q = m - i ∧ i ≤ m ∧ ρ = [(0, .vec (ints zs) m c1), (1, .vec (ints zs) m c2), (5, .int .i64 i)] ∧ cw' = cw) m ⟨0, by omega, by omega, rfl, rfl⟩ ?_
    rintro q ρ cw' N ⟨i, rfl, hi, rfl, rfl⟩ hN
    simp -implicitDefEqProofs only [go_sem]
    cases hlt : decide ((i : Int) < m)
    · simp -implicitDefEqProofs only [go_sem]
      exact fin
    · simp only [decide_eq_true_eq] at hlt
      have hr : 0 ≤ (i : Int) ∧ (i : Int) < m := by omega
      have hat := ints_at (zs := zs) (h := i) (by omega)
      simp -implicitDefEqProofs only [go_sem, hr, hat, wadd1 (i := i) (by omega)]
      exact hN (m - (i + 1)) _ _ (by omega) ⟨i + 1, rfl, by omega, rfl, rfl⟩
  · cases h

theorem keyCells_append : ∀ a b : List Key, keyCells (a ++ b) = keyCells a ++ keyCells b
  | [], b => rfl
  | k :: a, b => by simp only [List.cons_append, keyCells, keyCells_append a b]
theorem frz_keys {base : Nat} {cw : CW} {b n : Nat} {ks : List Key} (hb : base ≤ b) (hg : cw.get b = some (.cells (keyCells ks))) (hl : ks.length = n) : Frz base cw (.ref b 0 n 2) (.vec (keyCells ks) n false) := by
  have hc := keyCells_length ks
  refine .ref hb hg (by omega) (by omega) fun i c d _ hc hd => ?_
  rw [Nat.zero_add] at hc
  rw [hc] at hd; cases hd
  have : ∀ (ks : List Key) (c : CV), c ∈ keyCells ks → Frz base cw c c := by
    intro ks
    induction ks with
    | nil => intro c h; cases h
    | cons k r ih =>
      intro c h
      simp only [keyCells, List.mem_cons] at h
      rcases h with rfl | rfl | h
      · exact .int _ _
      · exact .bool _
      · exact ih c h
  exact this ks c (List.mem_of_getElem? hc)

set_option maxHeartbeats 1000000 in
theorem own_runs : ∀ args v, ownF args = some v → args.length = f_footmanlaw38_own.np ∧ ∀ cw, Runs K f_footmanlaw38_own args cw v := by
  have key : ∀ (a : CV) (ks : List Key) (n : Nat), ks.length = n → n ≤ 60 → (a = .nils ∧ n = 0 ∨ ∃ clip, a = .vec (keyCells ks) n clip) → ∀ cw, Runs K f_footmanlaw38_own [a] cw (if n = 0 then .nils else .vec (keyCells ks) n false) := by
    intro a ks n hln hn ha cw Q hQ
    have fin : ∀ (cw' : CW) c, Frz cw.next cw' c (if n = 0 then .nils else .vec (keyCells ks) n false) → (∀ b, b < cw.next → cw'.get b = cw.get b) → Q .ret [(2, c)] cw' := fun cw' c hf hk => hQ .ret _ _ _ (.inr rfl) rfl hf hk
    clear hQ
    simp -implicitDefEqProofs only [f_footmanlaw38_own, go_sem]
    refine wpk_loop (fun q ρ cw' => ∃ (i : Nat) (out : CV), q = n - i ∧ i ≤ n ∧ ρ = [(0, a), (3, out), (4, .int .i64 i)] ∧ (∀ b, b < cw.next → cw'.get b = cw.get b) ∧ cw.next ≤ cw'.next ∧
      ((i = 0 ∧ out = .nils) ∨ ∃ b, 0 < i ∧ out = .ref b 0 i 2 ∧ cw'.get b = some (.cells (keyCells (ks.take i))) ∧ cw.next ≤ b ∧ b < cw'.next)) n ⟨0, .nils, by omega, by omega, rfl, fun _ _ => rfl, by omega, .inl ⟨rfl, rfl⟩⟩ ?_
    rintro q ρ cw' N ⟨i, out, rfl, hi, rfl, hk, hnx, hout⟩ hN
    have w1 : IntKind.wrap .i64 ((i : Int) + 1) = ((i + 1 : Nat) : Int) := by rw [wrap_i64 (by omega) (by omega)]; omega
    have done : i = n → Q .ret [(2, out)] cw' := by
      intro hin
      subst hin
      refine fin _ _ ?_ hk
      rcases hout with ⟨rfl, rfl⟩ | ⟨b, hpos, rfl, hgb, hb1, hb2⟩
      · rw [if_pos rfl]; exact .nils
      · rw [if_neg (by omega)]
        rw [List.take_of_length_le (by omega)] at hgb
        exact frz_keys hb1 hgb hln
    rcases ha with ⟨rfl, rfl⟩ | ⟨clip, rfl⟩
    · have hi0 : i = 0 := by omega
      subst hi0
      have hf : decide (((0 : Nat) : Int) < 0) = false := by decide
      simp -implicitDefEqProofs only [go_sem, hf]
      exact done rfl
    simp -implicitDefEqProofs only [go_sem]
    cases hlt : decide ((i : Int) < n)
    · simp only [decide_eq_false_iff_not] at hlt
      simp -implicitDefEqProofs only [go_sem]
      exact done (by omega)
    simp only [decide_eq_true_eq] at hlt
    have hr : 0 ≤ (i : Int) ∧ (i : Int) < n := by omega
    have ai := keyCells_at ks i (by omega)
    simp only [ldc, if_true] at ai
    have hlim : lim = 68719476736 := by decide
    have hl1 : (1 : Nat) ≤ lim := by omega
    have hl2 : i + 1 ≤ lim := by omega
    have htk : keyCells (ks.take (i + 1)) = keyCells (ks.take i) ++ [.int .i64 (ks.getD i (0, false)).1, .bool (ks.getD i (0, false)).2] := by
      rw [List.take_succ_eq_append_getElem (by omega), keyCells_append]
      simp [keyCells, List.getD_eq_getElem?_getD, show i < ks.length by omega]
    rcases hout with ⟨rfl, rfl⟩ | ⟨b, hpos, rfl, hgb, hb1, hb2⟩
    · simp only [Nat.zero_mul, Nat.zero_add, List.drop_zero] at ai
      simp -implicitDefEqProofs only [go_sem, hr, ai, hl1, w1]
      refine hN (n - 1) _ _ (by omega) ⟨1, _, rfl, by omega, rfl, fun b' hb' => ?_, by simp only [go_sem]; omega, .inr ⟨cw'.next, by omega, rfl, ?_, by omega, by simp only [go_sem]; omega⟩⟩
      · rw [push_old (by omega)]; exact hk b' hb'
      · simp only [go_sem]; rw [htk]; rfl
    · have hil : (keyCells (ks.take i)).length = i * 2 := by rw [keyCells_length]; simp; omega
      have hle : ¬ ((i + 1) * 2 ≤ i * 2) := by omega
      simp -implicitDefEqProofs only [go_sem, hr, ai, hgb, hil, hle, hl2, w1, ne_eq, not_true_eq_false]
      refine hN (n - (i + 1)) _ _ (by omega) ⟨i + 1, _, rfl, by omega, rfl, fun b' hb' => ?_, by simp only [go_sem]; omega, .inr ⟨cw'.next, by omega, rfl, ?_, by omega, by simp only [go_sem]; omega⟩⟩
      · rw [push_old (by simp only [go_sem]; omega), kill_old (by omega)]; exact hk b' hb'
      · simp only [go_sem]; rw [htk]
  intro args v h
  unfold ownF at h
  split at h
  · cases h
    exact ⟨rfl, key _ [] 0 rfl (by omega) (.inl ⟨rfl, rfl⟩)⟩
  · rename_i cs n clip
    simp only [Option.bind_eq_some_iff] at h
    obtain ⟨ks, hks, h⟩ := h
    split at h
    case isFalse => cases h
    rename_i hc
    cases h
    rw [keysOf_spec hks]
    exact ⟨rfl, key _ ks n hc.1 hc.2 (.inr ⟨clip, rfl⟩)⟩
  · cases h

def rS (u : Nat) (st : Bool) : List UInt8 := if u = 3 then (if st then [105] else []) else [117, 61, UInt8.ofNat (48 + u)] ++ if st then [44, 32, 105] else []
theorem rS_eq : ((List.range 8).all fun u => rS u true == prS (u : Nat) true && rS u false == prS (u : Nat) false) = true := by kernel_rfl
theorem prS_rS {u : Nat} (h : u < 8) (st : Bool) : prS (u : Int) st = rS u st := by
  have := List.all_eq_true.1 rS_eq u (List.mem_range.2 h)
  simp only [Bool.and_eq_true, beq_iff_eq] at this
  cases st
  · exact this.2.symm
  · exact this.1.symm

theorem rprint_runs (h12 : K 12 = pureC checkF) : ∀ args v, printF args = some v → args.length = f_footmanref38_Print.np ∧ ∀ cw, Runs K f_footmanref38_Print args cw v := by
  intro args v h
  unfold printF at h
  split at h
  · rename_i u st
    cases h
    refine ⟨rfl, fun cw Q hQ => ?_⟩
    have fin : ∀ (cw' : CW) l e, CV.tup [.str l, .int .i64 e] = printM u st → (∀ b, b < cw.next → cw'.get b = cw.get b) → Q .ret [(2, .str l), (3, .int .i64 e)] cw' := by
      intro cw' l e he hk
      refine hQ .ret _ _ _ (.inr rfl) rfl ?_ hk
      rw [← he]; exact frz_plain rfl
    clear hQ
    have hk : ∀ b, b < cw.next → (cw.push (.cells [.int .i64 u, .bool st])).get b = cw.get b := fun b hb => push_old (by omega)
    simp -implicitDefEqProofs only [f_footmanref38_Print, f_footmanref38_Print_q4, f_footmanref38_Print_q3, f_footmanref38_Print_q2, f_footmanref38_Print_q1, go_sem, wpa_pure h12, checkF, not_beq']
    by_cases hu : checkM u = 0
    · have hub : (checkM u == 0) = true := by simp [hu]
      have hr : 0 ≤ u ∧ u ≤ 7 := by
        unfold checkM at hu
        split at hu
        · cases hu
        · omega
      obtain ⟨m, rfl⟩ := Int.eq_ofNat_of_zero_le hr.1
      rw [printM_ok hu, prS_rS (by omega)] at fin
      have w1 : IntKind.wrap .u8 (m : Int) = m := by
        simp only [IntKind.wrap, IntKind.signed, IntKind.bits]; simp; omega
      have w2 : IntKind.wrap .u8 ((48 : Int) + m) = ((48 + m : Nat) : Int) := by
        simp only [IntKind.wrap, IntKind.signed, IntKind.bits]; simp; omega
      simp -implicitDefEqProofs only [go_sem, hub, not_beq']
      cases h3 : ((m : Int) == 3)
      · have h3' : m ≠ 3 := by intro e; rw [e] at h3; cases h3
        have e1 : rS m st = [117, 61, UInt8.ofNat (48 + m)] ++ if st then [44, 32, 105] else [] := by rw [rS, if_neg h3']
        rw [e1] at fin
        simp -implicitDefEqProofs only [go_sem, w1, w2, bytesOf]
        have hne : (([117, 61, UInt8.ofNat (48 + m)] : List UInt8) == []) = false := rfl
        cases st <;> simp -implicitDefEqProofs only [go_sem, hne]
        · exact fin _ _ _ rfl hk
        · exact fin _ _ _ rfl hk
      · have h3' : m = 3 := by have := beq_iff_eq.1 h3; omega
        subst h3'
        cases st <;> simp -implicitDefEqProofs only [go_sem] <;> exact fin _ _ _ rfl hk
    · have hub : (checkM u == 0) = false := by simpa using hu
      simp -implicitDefEqProofs only [go_sem, hub]
      refine fin _ _ _ ?_ hk
      rw [printM_bad hu]
  · cases h

/-! ## The law -/
theorem all_and (b : Bool) : (b && true) = b := by cases b <;> rfl
set_option maxHeartbeats 2000000 in
theorem sorts_run (h8 : K 8 = pureC awakeF) (h9 : K 9 = pureC printF) (h10 : K 10 = pureC printF) (h11 : K 11 = pureC checkF) (h12 : K 12 = pureC checkF) (h13 : K 13 = pureC lessF) (h14 : K 14 = pureC lessF) (h15 : K 15 = pureC ownF) (h16 : K 16 = pureC sortF)
    (h17 : K 17 = pureC sortF) (h18 : K 18 = pureC sameF) (h19 : K 19 = pureC usualF) (h20 : K 20 = pureC usualF) {a : CV} {ks : List Key} {n : Nat} (hln : ks.length = n) (ha : a = .nils ∧ n = 0 ∨ a = .vec (keyCells ks) n false) (u v : Int) (s t : Bool) :
    wpF K f_footmanlaw38_PrioSorts [a, .agg [.int .i64 u, .bool s], .agg [.int .i64 v, .bool t]] cw0 fun v _ => v = .bool true := by
  refine top_run rfl fun Q fin => ?_
  have fin' : ∀ cw', Q .ret [(6, .bool true)] cw' := fun cw' => fin _ _ rfl
  clear fin
  have hp : ∃ l e, printM u s = .tup [.str l, .int .i64 e] := by
    unfold printM
    split
    · exact ⟨_, _, rfl⟩
    · exact ⟨_, _, rfl⟩
  obtain ⟨l, e, hp⟩ := hp
  have hsm : ks.length ≤ 60 → sameF [sortV ks, sortV ks] = some (.bool true) := by
    intro h60
    unfold sortV
    split
    · rfl
    · simp only [sameF, intsOf_ints, Option.bind_some]
      rw [if_pos ⟨trivial, by rw [srt_length, rangeI_length], trivial, by omega⟩]
  have hus : usualF [] = some (.agg [.int .i64 3, .bool false]) := rfl
  have hless : ∀ x y : Bool, (x == x) = true := fun x _ => by simp
  rcases ha with ⟨rfl, rfl⟩ | rfl
  · have hks : ks = [] := List.length_eq_zero_iff.1 hln
    subst hks
    have hs : sortV [] = .nils := rfl
    have hsm' := hsm (by simp)
    rw [hs] at hsm'
    have hf : decide ((0 : Int) > 60) = false := by decide
    simp -implicitDefEqProofs only [f_footmanlaw38_PrioSorts, f_footmanlaw38_PrioSorts_q2, f_footmanlaw38_PrioSorts_q1, go_sem, hf, wpa_pure h9, wpa_pure h10, wpa_pure h11, wpa_pure h12, wpa_pure h13, wpa_pure h14, wpa_pure h15, wpa_pure h16, wpa_pure h17, wpa_pure h18, wpa_pure h19, wpa_pure h20, wpa_pure h8, printF, hp,
      checkF, lessF, ownF, sortF, hsm', usualF, awakeF]
    exact fin' _
  · cases h60 : decide ((n : Int) > 60)
    · simp only [decide_eq_false_iff_not] at h60
      have hn : n ≤ 60 := by omega
      have hf : decide ((n : Int) > 60) = false := by simp; omega
      have ho : ownF [.vec (keyCells ks) n false] = some (if n = 0 then .nils else .vec (keyCells ks) n false) := by
        simp only [ownF, keysOf_keyCells, Option.bind_some]
        rw [if_pos ⟨hln, hn⟩]
      have hs2 : sortF [.vec (keyCells ks) n false] = some (sortV ks) := by
        simp only [sortF, keysOf_keyCells, Option.bind_some]
        rw [if_pos ⟨hln, hn⟩]
      have hs1 : sortF [if n = 0 then .nils else .vec (keyCells ks) n false] = some (sortV ks) := by
        split
        · rename_i h0
          subst h0
          have hks : ks = [] := List.length_eq_zero_iff.1 hln
          subst hks; rfl
        · exact hs2
      have hsm' := hsm (by omega)
      simp -implicitDefEqProofs only [f_footmanlaw38_PrioSorts, f_footmanlaw38_PrioSorts_q2, f_footmanlaw38_PrioSorts_q1, go_sem, hf, wpa_pure h9, wpa_pure h10, wpa_pure h11, wpa_pure h12, wpa_pure h13, wpa_pure h14, wpa_pure h15, wpa_pure h16, wpa_pure h17, wpa_pure h18, wpa_pure h19, wpa_pure h20, wpa_pure h8, printF, hp,
        checkF, lessF, ho, hs1, hs2, hsm', usualF, awakeF]
      exact fin' _
    · simp -implicitDefEqProofs only [f_footmanlaw38_PrioSorts, go_sem, h60, wpa_pure h8, awakeF]
      exact fin' _

end Go.Cs

/- Orders that stand for all: a check that does not branch where nothing hangs on it. -/
namespace Go.Cs
variable {pure : Nat → Bool} {l : List RO}

def readyIn (l : List RO) (rem : List Nat) (y : Nat) : Bool := (atR l y).after.all fun k => !rem.contains k
/-- May an operation be taken first, whatever else is chosen? -/
def easy (pure : Nat → Bool) (l : List RO) (rem : List Nat) (os : List (List Nat)) (y : Nat) : Bool :=
  readyIn l rem y && rem.all (fun z => z == y || (atR l z).after.contains y || indep pure (atR l y) (atR l z)) && os.all fun o => (takeFront pure l y o).isSome

def coverR (pure : Nat → Bool) (l : List RO) : Nat → List Nat → List (List Nat) → Bool
  | 0, rem, os => rem.isEmpty && os.any List.isEmpty
  | n + 1, rem, os => !os.isEmpty && if rem.isEmpty then os.any List.isEmpty else
    match rem.find? (easy pure l rem os) with
    | some y => coverR pure l n (rem.filter (· != y)) (os.filterMap (takeFront pure l y))
    | none => rem.all fun y => if readyIn l rem y then coverR pure l n (rem.filter (· != y)) (os.filterMap (takeFront pure l y)) else true

theorem takeFront_cons_eq (y : Nat) (r : List Nat) : takeFront pure l y (y :: r) = some r := by simp [takeFront]
theorem takeFront_cons_ne {i y : Nat} (r : List Nat) (h : i ≠ y) : takeFront pure l y (i :: r) = if indep pure (atR l i) (atR l y) = true then (takeFront pure l y r).map (i :: ·) else none := by simp [takeFront, h]

theorem tf_comm {y z : Nat} (hyz : y ≠ z) (hi : indep pure (atR l y) (atR l z) = true) : ∀ {o o1 : List Nat}, takeFront pure l y o = some o1 → (takeFront pure l z o).bind (takeFront pure l y) = takeFront pure l z o1
  | [], o1, h => by cases h
  | i :: r, o1, h => by
    by_cases hiy : i = y
    · subst hiy
      rw [takeFront_cons_eq] at h
      cases h
      rw [takeFront_cons_ne r hyz, if_pos hi]
      cases takeFront pure l z r with
      | none => rfl
      | some r' => simp only [Option.map_some, Option.bind_some, takeFront_cons_eq]
    · rw [takeFront_cons_ne r hiy] at h
      split at h
      case isFalse => cases h
      rename_i hiny
      obtain ⟨r1, hr1, rfl⟩ := Option.map_eq_some_iff.1 h
      have ih := tf_comm hyz hi hr1
      by_cases hiz : i = z
      · subst hiz
        rw [takeFront_cons_eq, takeFront_cons_eq, Option.bind_some, hr1]
      · rw [takeFront_cons_ne r hiz, takeFront_cons_ne r1 hiz]
        split
        · rw [← ih]
          cases takeFront pure l z r with
          | none => rfl
          | some r2 => simp only [Option.map_some, Option.bind_some, takeFront_cons_ne r2 hiy, if_pos hiny]
        · rfl

theorem filterMap_same {α β : Type} {f g : α → Option β} : ∀ {l : List α}, (∀ x ∈ l, f x = g x) → l.filterMap f = l.filterMap g
  | [], _ => rfl
  | a :: l, h => by
    rw [List.filterMap_cons, List.filterMap_cons, h a (List.mem_cons_self ..), filterMap_same fun x hx => h x (List.mem_cons_of_mem _ hx)]

theorem filter_comm (rem : List Nat) (y z : Nat) : (rem.filter (· != z)).filter (· != y) = (rem.filter (· != y)).filter (· != z) := by
  rw [List.filter_filter, List.filter_filter]
  exact List.filter_congr fun x _ => Bool.and_comm _ _

theorem length_filter_ne : ∀ {rem : List Nat} {y : Nat}, rem.Nodup → y ∈ rem → (rem.filter (· != y)).length + 1 = rem.length
  | x :: rem, y, hn, hy => by
    rw [List.nodup_cons] at hn
    by_cases hxy : x = y
    · subst hxy
      have : rem.filter (· != x) = rem := List.filter_eq_self.2 fun z hz => by
        have : z ≠ x := fun e => hn.1 (e ▸ hz)
        simpa using this
      simp [List.filter_cons, this]
    · have := length_filter_ne hn.2 (by simpa [Ne.symm hxy] using hy)
      simp [List.filter_cons, hxy]; omega

theorem cover_easy : ∀ (n : Nat) {rem : List Nat} {os : List (List Nat)} {y : Nat}, rem.Nodup → rem.length = n + 1 → y ∈ rem → readyIn l rem y = true →
    (∀ z ∈ rem, z ≠ y → (atR l z).after.contains y = false → indep pure (atR l y) (atR l z) = true) → (∀ o ∈ os, (takeFront pure l y o).isSome = true) → os ≠ [] →
    cover pure l n (rem.filter (· != y)) (os.filterMap (takeFront pure l y)) = true → cover pure l (n + 1) rem os = true := by
  intro n
  induction n with
  | zero =>
    intro rem os y hnd hlen hy hr hi hos hne hc
    have hrem : rem = [y] := by
      match rem, hlen with
      | [x], _ => simp at hy; rw [hy]
    subst hrem
    simp only [cover, Bool.and_eq_true]
    refine ⟨by cases os <;> simp at hne ⊢, ?_⟩
    simp only [List.isEmpty_cons, Bool.false_eq_true, if_false, List.all_cons, List.all_nil, Bool.and_true]
    split
    · exact hc
    · rfl
  | succ n ih =>
    intro rem os y hnd hlen hy hr hi hos hne hc
    rw [cover]
    simp only [Bool.and_eq_true]
    refine ⟨by cases os <;> simp at hne ⊢, ?_⟩
    rw [if_neg (by intro h; rw [List.isEmpty_iff.1 h] at hy; cases hy), List.all_eq_true]
    intro z hz
    split
    case isFalse => rfl
    rename_i hzr
    by_cases hzy : z = y
    · subst hzy; exact hc
    have hznot : (atR l z).after.contains y = false := by
      cases h : (atR l z).after.contains y
      · rfl
      · have := List.all_eq_true.1 hzr y (by simpa using h)
        simp [hy] at this
    have hind := hi z hz hzy hznot
    have hmem : ∀ {x : Nat}, x ∈ rem.filter (· != z) → x ∈ rem := fun h => (List.mem_filter.1 h).1
    have hyz : y ∈ rem.filter (· != z) := List.mem_filter.2 ⟨hy, by simpa using fun e => hzy e.symm⟩
    have hzy' : z ∈ rem.filter (· != y) := List.mem_filter.2 ⟨hz, by simpa using hzy⟩
    have heq : (os.filterMap (takeFront pure l z)).filterMap (takeFront pure l y) = (os.filterMap (takeFront pure l y)).filterMap (takeFront pure l z) := by
      rw [List.filterMap_filterMap, List.filterMap_filterMap]
      refine filterMap_same fun o ho => ?_
      obtain ⟨o1, h1⟩ := Option.isSome_iff_exists.1 (hos o ho)
      rw [h1, Option.bind_some]
      exact tf_comm (fun e => hzy e.symm) hind h1
    -- z is ready without y
    have hc2 := hc
    rw [cover] at hc2
    simp only [Bool.and_eq_true] at hc2
    have hc3 := hc2.2
    rw [if_neg (by intro h; rw [List.isEmpty_iff.1 h] at hzy'; cases hzy'), List.all_eq_true] at hc3
    have hc4 := hc3 z hzy'
    rw [if_pos (by
      refine List.all_eq_true.2 fun k hk => ?_
      have := List.all_eq_true.1 hzr k hk
      simp only [Bool.not_eq_true', List.contains_eq_mem, decide_eq_false_iff_not, List.mem_filter, not_and] at this ⊢
      exact fun h => absurd h this)] at hc4
    refine ih (hnd.filter _) (by have := length_filter_ne hnd hz; omega) hyz ?_ (fun x hx hxy hxa => hi x (hmem hx) hxy hxa) ?_ ?_ ?_
    · refine List.all_eq_true.2 fun k hk => ?_
      have := List.all_eq_true.1 hr k hk
      simp only [Bool.not_eq_true', List.contains_eq_mem, decide_eq_false_iff_not, List.mem_filter, not_and] at this ⊢
      exact fun h => absurd h this
    · intro o2 ho2
      obtain ⟨o, ho, h2⟩ := List.mem_filterMap.1 ho2
      obtain ⟨o1, h1⟩ := Option.isSome_iff_exists.1 (hos o ho)
      have h3 := tf_comm (fun e => hzy e.symm) hind h1
      rw [h2, Option.bind_some] at h3
      -- y may be taken from what is left
      obtain ⟨p, q, he, he1, hp⟩ := takeFront_spec h1
      obtain ⟨p2, q2, he2, he3, hp2⟩ := takeFront_spec h2
      have key : ∀ {o o2 o1 : List Nat}, takeFront pure l y o = some o1 → takeFront pure l z o = some o2 → (takeFront pure l y o2).isSome = true := by
        intro o
        induction o with
        | nil => intro o2 o1 h; cases h
        | cons i r ihr =>
          intro o2 o1 h1 h2
          by_cases hiy : i = y
          · subst hiy
            rw [takeFront_cons_ne r (fun e => hzy e.symm), if_pos hind] at h2
            obtain ⟨r2, _, rfl⟩ := Option.map_eq_some_iff.1 h2
            rw [takeFront_cons_eq]; rfl
          · rw [takeFront_cons_ne r hiy] at h1
            split at h1
            case isFalse => cases h1
            rename_i hiny
            obtain ⟨r1, hr1, rfl⟩ := Option.map_eq_some_iff.1 h1
            by_cases hiz : i = z
            · subst hiz
              rw [takeFront_cons_eq] at h2
              cases h2
              rw [hr1]; rfl
            · rw [takeFront_cons_ne r hiz] at h2
              by_cases hx : indep pure (atR l i) (atR l z) = true
              case neg => rw [if_neg hx] at h2; cases h2
              rw [if_pos hx] at h2
              obtain ⟨r2, hr2, rfl⟩ := Option.map_eq_some_iff.1 h2
              rw [takeFront_cons_ne r2 hiy, if_pos hiny]
              have := ihr hr1 hr2
              simpa using this
      exact key h1 h2
    · obtain ⟨o', ho'⟩ := cover_ne hc4
      rw [← heq] at ho'
      obtain ⟨o2, ho2, _⟩ := List.mem_filterMap.1 ho'
      intro e
      rw [e] at ho2; cases ho2
    · rw [filter_comm, heq]
      exact hc4

theorem coverR_cover : ∀ (n : Nat) {rem : List Nat} {os : List (List Nat)}, rem.Nodup → rem.length = n → coverR pure l n rem os = true → cover pure l n rem os = true := by
  intro n
  induction n with
  | zero => intro rem os _ _ h; exact h
  | succ n ih =>
    intro rem os hnd hlen h
    simp only [coverR, Bool.and_eq_true] at h
    obtain ⟨hne, h⟩ := h
    have hrem : rem ≠ [] := by intro e; rw [e] at hlen; simp at hlen
    rw [if_neg (by simpa using hrem)] at h
    split at h
    · rename_i y hf
      have hy := List.mem_of_find?_eq_some hf
      have he := List.find?_some hf
      simp only [easy, Bool.and_eq_true, List.all_eq_true, Bool.or_eq_true, beq_iff_eq] at he
      obtain ⟨⟨h1, h2⟩, h3⟩ := he
      refine cover_easy n hnd hlen hy h1 (fun z hz hzy hza => ?_) h3 (by intro e; rw [e] at hne; simp at hne) (ih (hnd.filter _) (by have := length_filter_ne hnd hy; omega) h)
      rcases h2 z hz with (h | h) | h
      · exact absurd h hzy
      · rw [hza] at h; cases h
      · exact h
    · simp only [cover, Bool.and_eq_true]
      refine ⟨hne, ?_⟩
      rw [if_neg (by simpa using hrem), List.all_eq_true]
      intro y hy
      have := List.all_eq_true.1 h y hy
      split
      · rename_i hr
        rw [if_pos (show readyIn l rem y = true from hr)] at this
        exact ih (hnd.filter _) (by have := length_filter_ne hnd hy; omega) this
      · rfl

/-- As 'RC.ok', with the other check. -/
def RC.okR (pure : Nat → Bool) : RC → Bool
  | .region ops draw live => if draw then live.isSome && drawOk pure ops else true
  | .seq a b => a.okR pure && b.okR pure
  | .cond _ a b => a.okR pure && b.okR pure
  | .block _ c => c.okR pure
  | .loop c => c.okR pure
  | .scope c => c.okR pure
  | .multi ops orders _ => (ops.zipIdx.all fun x => x.1.after.all fun k => decide (k < x.2)) && coverR pure ops ops.length (List.range ops.length) orders
  | _ => true

theorem RC.ok_of {pure : Nat → Bool} : ∀ {c : RC}, c.okR pure = true → c.ok pure = true := by
  intro c
  induction c with
  | region ops d l => exact fun h => h
  | seq a b iha ihb =>
    intro h
    simp only [RC.okR, Bool.and_eq_true] at h
    simp only [RC.ok, Bool.and_eq_true]
    exact ⟨iha h.1, ihb h.2⟩
  | cond x a b iha ihb =>
    intro h
    simp only [RC.okR, Bool.and_eq_true] at h
    simp only [RC.ok, Bool.and_eq_true]
    exact ⟨iha h.1, ihb h.2⟩
  | block i c ih => exact fun h => ih h
  | loop c ih => exact fun h => ih h
  | scope c ih => exact fun h => ih h
  | multi ops orders live =>
    intro h
    simp only [RC.okR, Bool.and_eq_true] at h
    simp only [RC.ok, multiOk, Bool.and_eq_true]
    exact ⟨h.1, coverR_cover _ List.nodup_range (by simp) h.2⟩
  | _ => exact fun h => h

end Go.Cs

/- The seat of prio: the contracts of what sorts. -/
namespace Go.Cs
open Go.Proofs (Tryd.prog)

noncomputable def t22 : Tab := (28, .p cmpF) :: t21
theorem ks22 : KSound Tryd.prog fidP GP (Tab.K t22) := Tab.cons_sound ks21 fun f hf => by
  obtain rfl := lk_only (n := 23) (by kernel_rfl) f hf
  exact fn_p follows ks21 Go.Proofs.Tryd.func23 (by decide) e_prio_Prio_compare (by kernel_rfl) (cmp_runs)

noncomputable def t23 : Tab := (29, .e cloF) :: t22
theorem ks23 : KSound Tryd.prog fidP GP (Tab.K t23) := Tab.cons_sound ks22 fun f hf => by
  obtain rfl := lk_only (n := 25) (by kernel_rfl) f hf
  exact fn_e follows ks22 Go.Proofs.Tryd.func25 (by decide) e_prio_Sort_1 (by kernel_rfl) (clo_runs rfl)

noncomputable def t24 : Tab := (77, .e swpF) :: t23
theorem ks24 : KSound Tryd.prog fidP GP (Tab.K t24) := Tab.cons_sound ks23 fun f hf => by
  obtain rfl := lk_only (n := 84) (by kernel_rfl) f hf
  exact fn_w follows ks23 Go.Proofs.Tryd.func84 (by decide) e_slices_swapRangeCmpFunc_int (by kernel_rfl) (swp_runs)

noncomputable def t25 : Tab := (66, .e rotF) :: t24
theorem ks25 : KSound Tryd.prog fidP GP (Tab.K t25) := Tab.cons_sound ks24 fun f hf => by
  obtain rfl := lk_only (n := 70) (by kernel_rfl) f hf
  exact fn_w follows ks24 Go.Proofs.Tryd.func70 (by decide) e_slices_rotateCmpFunc_int (by kernel_rfl) (rot_runs rfl)

noncomputable def t26 : Tab := (54, .e insF) :: t25
theorem ks26 : KSound Tryd.prog fidP GP (Tab.K t26) := Tab.cons_sound ks25 fun f hf => by
  obtain rfl := lk_only (n := 52) (by kernel_rfl) f hf
  exact fn_w follows ks25 Go.Proofs.Tryd.func52 (by decide) e_slices_insertionSortCmpFunc_int (by kernel_rfl) (ins_runs rfl)

theorem symF_none (args : List CV) (cw : CW) : symF 0 args cw = none := by
  unfold symF
  split
  · rename_i b n a m e o l
    cases h1 : datOf cw b n with
    | none => rfl
    | some zs =>
      cases h2 : ctxOf cw o l with
      | none => rfl
      | some ks =>
        simp only [Option.bind_some]
        rw [if_neg]
        rintro ⟨_, _, _, h3, h4, _, _, h5, _⟩
        omega
  · rfl
theorem sym_all : ∀ d, Sound Tryd.prog fidP GP 53 (Con.e (symF d)).ct
  | 0 => fn_w (t := t26) follows ks26 Go.Proofs.Tryd.func53 (by decide) e_slices_symMergeCmpFunc_int (by kernel_rfl) fun args cw v cw' h => by rw [symF_none] at h; cases h
  | d + 1 => fn_w (t := (55, .e (symF d)) :: t26) follows (Tab.cons_sound ks26 fun f hf => by
      obtain rfl := lk_only (n := 53) (by kernel_rfl) f hf
      exact sym_all d) Go.Proofs.Tryd.func53 (by decide) e_slices_symMergeCmpFunc_int (by kernel_rfl) (sym_runs rfl rfl rfl)
noncomputable def t27 : Tab := (55, .e (symF 60)) :: t26
theorem ks27 : KSound Tryd.prog fidP GP (Tab.K t27) := Tab.cons_sound ks26 fun f hf => by
  obtain rfl := lk_only (n := 53) (by kernel_rfl) f hf
  exact sym_all 60

noncomputable def t28 : Tab := (37, .e stableF) :: t27
theorem ks28 : KSound Tryd.prog fidP GP (Tab.K t28) := Tab.cons_sound ks27 fun f hf => by
  obtain rfl := lk_only (n := 35) (by kernel_rfl) f hf
  exact fn_w follows ks27 Go.Proofs.Tryd.func35 (by decide) e_slices_stableCmpFunc_int (by kernel_rfl) (stable_runs rfl rfl)

noncomputable def t29 : Tab := (30, .e sortStF) :: t28
theorem ks29 : KSound Tryd.prog fidP GP (Tab.K t29) := Tab.cons_sound ks28 fun f hf => by
  obtain rfl := lk_only (n := 24) (by kernel_rfl) f hf
  exact fn_w follows ks28 Go.Proofs.Tryd.func24 (by decide) e_slices_SortStableFunc_int_int (by kernel_rfl) (sortSt_runs rfl)

noncomputable def t30 : Tab := (16, .p sortF) :: t29
theorem ks30 : KSound Tryd.prog fidP GP (Tab.K t30) := Tab.cons_sound ks29 fun f hf => by
  obtain rfl := lk_only (n := 13) (by kernel_rfl) f hf
  exact fn_p follows ks29 Go.Proofs.Tryd.func13 (by decide) e_prio_Sort (by kernel_rfl) (sort_runs rfl)

noncomputable def t31 : Tab := (13, .p lessF) :: t30
theorem ks31 : KSound Tryd.prog fidP GP (Tab.K t31) := Tab.cons_sound ks30 fun f hf => by
  obtain rfl := lk_only (n := 10) (by kernel_rfl) f hf
  exact fn_p follows ks30 Go.Proofs.Tryd.func10 (by decide) e_prio_Less (by kernel_rfl) (less_runs rfl)

noncomputable def t32 : Tab := (14, .p lessF) :: t31
theorem ks32 : KSound Tryd.prog fidP GP (Tab.K t32) := Tab.cons_sound ks31 fun f hf => by
  obtain rfl := lk_only (n := 11) (by kernel_rfl) f hf
  exact fn_p follows ks31 Go.Proofs.Tryd.func11 (by decide) e_footmanref38_Less (by kernel_rfl) (rless_runs)

noncomputable def t33 : Tab := (12, .p checkF) :: t32
theorem ks33 : KSound Tryd.prog fidP GP (Tab.K t33) := Tab.cons_sound ks32 fun f hf => by
  obtain rfl := lk_only (n := 9) (by kernel_rfl) f hf
  exact fn_p follows ks32 Go.Proofs.Tryd.func9 (by decide) e_footmanref38_Check (by kernel_rfl) (rcheck_runs)

noncomputable def t34 : Tab := (10, .p printF) :: t33
theorem ks34 : KSound Tryd.prog fidP GP (Tab.K t34) := Tab.cons_sound ks33 fun f hf => by
  obtain rfl := lk_only (n := 7) (by kernel_rfl) f hf
  exact fn_p follows ks33 Go.Proofs.Tryd.func7 (by decide) e_footmanref38_Print (by kernel_rfl) (rprint_runs rfl)

noncomputable def t35 : Tab := (20, .p usualF) :: t34
theorem ks35 : KSound Tryd.prog fidP GP (Tab.K t35) := Tab.cons_sound ks34 fun f hf => by
  obtain rfl := lk_only (n := 17) (by kernel_rfl) f hf
  exact fn_p follows ks34 Go.Proofs.Tryd.func17 (by decide) e_footmanref38_Usual (by kernel_rfl) (rusual_runs)

noncomputable def t36 : Tab := (15, .p ownF) :: t35
theorem ks36 : KSound Tryd.prog fidP GP (Tab.K t36) := Tab.cons_sound ks35 fun f hf => by
  obtain rfl := lk_only (n := 14) (by kernel_rfl) f hf
  exact fn_p follows ks35 Go.Proofs.Tryd.func14 (by decide) e_footmanlaw38_own (by kernel_rfl) (own_runs)

noncomputable def t37 : Tab := (17, .p sortF) :: t36
theorem ks37 : KSound Tryd.prog fidP GP (Tab.K t37) := Tab.cons_sound ks36 fun f hf => by
  obtain rfl := lk_only (n := 15) (by kernel_rfl) f hf
  exact fn_p follows ks36 Go.Proofs.Tryd.func15 (by decide) e_footmanref38_Sort (RC.ok_of (by kernel_rfl)) (rsort_runs rfl)

noncomputable def t38 : Tab := (18, .p sameF) :: t37
theorem ks38 : KSound Tryd.prog fidP GP (Tab.K t38) := Tab.cons_sound ks37 fun f hf => by
  obtain rfl := lk_only (n := 12) (by kernel_rfl) f hf
  exact fn_p follows ks37 Go.Proofs.Tryd.func12 (by decide) e_footmanref15_SameInts (by kernel_rfl) (same_runs)

noncomputable def tS : Tab := (8, .p awakeF) :: t38
theorem ksS : KSound Tryd.prog fidP GP (Tab.K tS) := Tab.cons_sound ks38 fun f hf => by
  obtain rfl := lk_only (n := 5) (by kernel_rfl) f hf
  exact awake_sound
theorem sorts_sound : Sound Tryd.prog fidP GP 3 (wpF (Tab.K tS) f_footmanlaw38_PrioSorts) :=
  sound_of follows ksS (Tab.ok tS) Go.Proofs.Tryd.func3 (by decide) e_footmanlaw38_PrioSorts (by kernel_rfl) fun _ _ _ h => h
end Go.Cs

/- Arguments that are plain data, read as canonical values. -/
namespace Go.Cs
open Go.WideShapes
variable {H : Type} {enc : TypeId × Value → H} {P : Program} {fid : FuncId → Option Nat} {X : Cx} {W : World} {base : Nat} {spare : Nat → Bool} {held : Bool}

/-- What a value is made of. -/
inductive Ty where
  | int (k : IntKind)
  | bool
  | str
  | struct (ts : List Ty)
  | arr (n : Nat) (t : Ty)

mutual
/-- The cells of a value of a type. -/
def Ty.has : Ty → List CV → Prop
  | .int k, cs => ∃ n, cs = [.int k n] ∧ (Lit.int k n).wf = true
  | .bool, cs => ∃ b, cs = [.bool b]
  | .str, cs => ∃ l, cs = [.str l] ∧ l.length ≤ maxLen
  | .struct ts, cs => hasAll ts cs
  | .arr n t, cs => ∃ css : List (List CV), css.length = n ∧ cs = css.flatten ∧ ∀ c ∈ css, t.has c
def hasAll : List Ty → List CV → Prop
  | [], cs => cs = []
  | t :: ts, cs => ∃ a b, cs = a ++ b ∧ t.has a ∧ hasAll ts b
end

def schFields (P : Program) (s : TypeId → Option Ty) : List Field → Nat → Option (List Ty × Nat)
  | [], off => some ([], off)
  | f :: r, off => if f.offset = off then (s f.type).bind fun T => (schFields P s r (off + P.cellsOf f.type)).bind fun x => some (T :: x.1, x.2) else none

def sch (P : Program) : Nat → TypeId → Option Ty
  | 0, _ => none
  | d + 1, t => match P.underlying t with
    | some (.int k) => some (.int k)
    | some .bool => some .bool
    | some .string => some .str
    | some (.struct fs) => (schFields P (sch P d) fs.toList 0).bind fun x => if x.2 = P.cellsOf t then some (.struct x.1) else none
    | some (.array n e) => (sch P d e).bind fun T => if n * P.cellsOf e = P.cellsOf t then some (.arr n T) else none
    | _ => none

/-- Cells, and Go's. -/
def RowV (fid : FuncId → Option Nat) (X : Cx) (W : World) (ccs : List CV) (cs : List Value) : Prop :=
  ccs.length = cs.length ∧ ∀ (i : Nat) (c : CV), ccs[i]? = some c → c.one = true ∧ ∃ v, cs[i]? = some v ∧ VR fid X W c v

theorem RowV.nil : RowV fid X W [] [] := ⟨rfl, by simp⟩
theorem RowV.one {c : CV} {v : Value} (h1 : c.one = true) (h : VR fid X W c v) : RowV fid X W [c] [v] := by
  refine ⟨rfl, fun i d hd => ?_⟩
  match i with
  | 0 => cases hd; exact ⟨h1, v, rfl, h⟩
  | i + 1 => simp at hd
theorem RowV.append {a b : List CV} {x y : List Value} (h1 : RowV fid X W a x) (h2 : RowV fid X W b y) : RowV fid X W (a ++ b) (x ++ y) := by
  refine ⟨by simp [h1.1, h2.1], fun i c hc => ?_⟩
  rw [List.getElem?_append] at hc ⊢
  rw [← h1.1]
  by_cases hi : i < a.length
  · rw [if_pos hi] at hc ⊢
    exact h1.2 i c hc
  · rw [if_neg hi] at hc ⊢
    exact h2.2 _ c hc

theorem mapM_get {α β : Type} {f : α → Option β} : ∀ {l : List α} {r : List β}, l.mapM f = some r → ∀ x ∈ l, ∃ y, f x = some y
  | [], r, _, x, hx => by cases hx
  | a :: l, r, h, x, hx => by
    rw [List.mapM_cons] at h
    simp only [Option.bind_eq_bind, Option.pure_def, Option.bind_eq_some_iff] at h
    obtain ⟨b, hb, bs, hbs, _⟩ := h
    rcases List.mem_cons.1 hx with rfl | hx
    · exact ⟨b, hb⟩
    · exact mapM_get hbs x hx

theorem read_fields {s : TypeId → Option Ty} {cs : List Value}
    (go : ∀ t T cs', s t = some T → ∀ n y, DataW.trod enc P W base spare held n t cs' = some y → ∃ ccs, T.has ccs ∧ RowV fid X W ccs cs') (n : Nat) :
    ∀ (fs : List Field) (off : Nat) (ts : List Ty) (fin : Nat), schFields P s fs off = some (ts, fin) → fin = cs.length → off ≤ cs.length →
      (∀ f ∈ fs, ∃ y, DataW.trod enc P W base spare held n f.type ((cs.drop f.offset).take (P.cellsOf f.type)) = some y) → ∃ ccs, hasAll ts ccs ∧ RowV fid X W ccs (cs.drop off)
  | [], off, ts, fin, h, hf, _, _ => by
    simp only [schFields, Option.some.injEq, Prod.mk.injEq] at h
    obtain ⟨rfl, rfl⟩ := h
    refine ⟨[], by simp [hasAll], ?_⟩
    rw [hf, List.drop_length]
    exact RowV.nil
  | f :: r, off, ts, fin, h, hf, hle, hall => by
    simp only [schFields] at h
    split at h
    case isFalse => cases h
    rename_i ho
    simp only [Option.bind_eq_some_iff] at h
    obtain ⟨T, hT, ⟨ts', fin'⟩, hr, h⟩ := h
    simp only [Option.some.injEq, Prod.mk.injEq] at h
    obtain ⟨rfl, rfl⟩ := h
    obtain ⟨y, hy⟩ := hall f (List.mem_cons_self ..)
    obtain ⟨a, ha, hra⟩ := go _ _ _ hT _ _ hy
    have hmono : ∀ (l : List Field) (o : Nat) (q : List Ty × Nat), schFields P s l o = some q → o ≤ q.2 := by
      intro l
      induction l with
      | nil => intro o q hq; simp only [schFields, Option.some.injEq] at hq; subst hq; exact Nat.le_refl _
      | cons f l ih =>
        intro o q hq
        simp only [schFields] at hq
        split at hq
        · simp only [Option.bind_eq_some_iff, Option.some.injEq] at hq
          obtain ⟨_, _, q', hq', rfl⟩ := hq
          have := ih _ _ hq'
          simp only at this ⊢; omega
        · cases hq
    have hoff := hmono _ _ _ hr
    simp only at hoff
    obtain ⟨b, hb, hrb⟩ := read_fields go n r _ ts' fin' hr hf (by omega) fun g hg => hall g (List.mem_cons_of_mem _ hg)
    refine ⟨a ++ b, ⟨a, b, rfl, ha, hb⟩, ?_⟩
    rw [ho] at hra
    have e : cs.drop off = (cs.drop off).take (P.cellsOf f.type) ++ cs.drop (off + P.cellsOf f.type) := by
      rw [← List.drop_drop, List.take_append_drop]
    rw [e]
    exact hra.append hrb

theorem read_elems {T : Ty} {e : TypeId} {sz n : Nat} (go : ∀ cs' y, DataW.trod enc P W base spare held n e cs' = some y → ∃ ccs, T.has ccs ∧ RowV fid X W ccs cs') :
    ∀ (m : Nat) {cs : List Value}, cs.length = m * sz → (∀ i, i < m → ∃ y, DataW.trod enc P W base spare held n e ((cs.drop (i * sz)).take sz) = some y) →
      ∃ css : List (List CV), css.length = m ∧ (∀ c ∈ css, T.has c) ∧ RowV fid X W css.flatten cs
  | 0, cs, hl, _ => by
    have : cs = [] := List.length_eq_zero_iff.1 (by simpa using hl)
    subst this
    exact ⟨[], rfl, by simp, RowV.nil⟩
  | m + 1, cs, hl, h => by
    obtain ⟨y, hy⟩ := h 0 (by omega)
    obtain ⟨a, ha, hra⟩ := go _ _ hy
    rw [Nat.zero_mul, List.drop_zero] at hra
    obtain ⟨css, h1, h2, h3⟩ := read_elems (sz := sz) go m (cs := cs.drop sz) (by rw [List.length_drop, hl, Nat.succ_mul]; omega) fun i hi => by
      have := h (i + 1) (by omega)
      rwa [List.drop_drop, show sz + i * sz = (i + 1) * sz by rw [Nat.succ_mul]; omega]
    refine ⟨a :: css, by simp [h1], fun c hc => ?_, ?_⟩
    · rcases List.mem_cons.1 hc with rfl | hc
      · exact ha
      · exact h2 c hc
    · rw [List.flatten_cons]
      have e : cs = cs.take sz ++ cs.drop sz := (List.take_append_drop _ _).symm
      rw [e]
      exact hra.append h3

/-- What is read as data has the cells of its type. -/
theorem read_cells : ∀ (d : Nat) (t : TypeId) (T : Ty) (cs : List Value), sch P d t = some T → ∀ n y, DataW.trod enc P W base spare held n t cs = some y → ∃ ccs, T.has ccs ∧ RowV fid X W ccs cs
  | 0, t, T, cs, h, n, y, _ => by cases h
  | d + 1, t, T, cs, h, n, y, hy => by
    simp only [sch] at h
    split at h
    · rename_i k hu
      cases h
      obtain ⟨m, rfl, _, hw⟩ := DataW.trod_int hu hy
      exact ⟨_, ⟨m, rfl, hw⟩, RowV.one rfl (.int k m)⟩
    · rename_i hu
      cases h
      obtain ⟨b, rfl, _⟩ := DataW.trod_bool hu hy
      exact ⟨_, ⟨b, rfl⟩, RowV.one rfl (.bool b)⟩
    · rename_i hu
      cases h
      obtain ⟨s, rfl, _, hl⟩ := DataW.trod_string hu hy
      exact ⟨_, ⟨s.data.toList, rfl, by simpa using hl⟩, RowV.one rfl (.str s)⟩
    · rename_i fs hu
      simp only [Option.bind_eq_some_iff] at h
      obtain ⟨⟨ts, fin⟩, hs, h⟩ := h
      split at h
      case isFalse => cases h
      rename_i hfin
      cases h
      obtain ⟨xs, m, rfl, _, hl, hxl, hat⟩ := DataW.trod_struct hu hy
      obtain ⟨ccs, h1, h2⟩ := read_fields (cs := cs) (fun t T cs' hs n y hy => read_cells d t T cs' hs n y hy) m fs.toList 0 ts fin hs (by rw [hl]; exact hfin) (Nat.zero_le _) fun f hf => by
        obtain ⟨i, hi, hfi⟩ := List.getElem_of_mem hf
        have hi' : i < fs.size := by simpa using hi
        have := hat i f (by rw [Array.getElem?_eq_getElem hi']; simpa using hfi)
        rw [this, List.getElem?_eq_getElem (by omega)]
        exact ⟨_, rfl⟩
      exact ⟨ccs, h1, by simpa using h2⟩
    · rename_i m e hu
      simp only [Option.bind_eq_some_iff] at h
      obtain ⟨T', hT, h⟩ := h
      split at h
      case isFalse => cases h
      rename_i hsz
      cases h
      obtain ⟨xs, q, rfl, _, hl, hxl, hat⟩ := DataW.trod_array hu hy
      obtain ⟨css, h1, h2, h3⟩ := read_elems (T := T') (e := e) (sz := P.cellsOf e) (n := q) (fun cs' y hy => read_cells d e T' cs' hT q y hy) m (cs := cs) (by rw [hl, hsz]) fun i hi => by
        have := hat i hi
        rw [this, List.getElem?_eq_getElem (by omega)]
        exact ⟨_, rfl⟩
      exact ⟨css.flatten, ⟨css, h1, rfl, h2⟩, h3⟩
    · cases h

def Ty.isAgg : Ty → Bool
  | .struct _ | .arr _ _ => true
  | _ => false
def Ty.val (T : Ty) (ccs : List CV) : CV := if T.isAgg then .agg ccs else ccs.headD default

theorem read_val {t : TypeId} {T : Ty} {v : Value} {d : Nat} {x : DataW H} {ps : List MemPlace} {r : Reach} {b0 : Nat} (hs : sch P d t = some T) (hval : Value.okWide P W r b0 t v) (h : DataW.Trod enc P W base spare held t v x ps) :
    ∃ ccs, T.has ccs ∧ VR fid X W (T.val ccs) v := by
  obtain ⟨n, hn⟩ := h
  obtain ⟨ccs, h1, h2, h3⟩ := read_cells (fid := fid) (X := X) d t T _ hs n _ hn
  refine ⟨ccs, h1, ?_⟩
  cases d with
  | zero => cases hs
  | succ d =>
    have agg : ∀ cs : Array Value, v = .agg cs → T.isAgg = true → VR fid X W (T.val ccs) v := by
      rintro cs rfl ht
      rw [Ty.val, if_pos ht]
      refine .agg (by simpa [Value.cells] using h2.symm) (fun i c hc => (h3 i c hc).1) fun i c hc => ?_
      obtain ⟨_, u, hu, hv⟩ := h3 i c hc
      have : cs[i]? = some u := by simpa [Value.cells] using hu
      simpa [Array.getD_eq_getD_getElem?, this] using hv
    have one : v.cells = #[v] → (∃ c, ccs = [c]) → T.isAgg = false → VR fid X W (T.val ccs) v := by
      rintro hc ⟨c, rfl⟩ ht
      rw [Ty.val, if_neg (by simp [ht])]
      obtain ⟨_, u, hu, hv⟩ := h3 0 c rfl
      rw [hc] at hu
      simp at hu
      subst hu
      exact hv
    simp only [sch] at hs
    split at hs
    · rename_i k hu
      cases hs
      obtain ⟨m, rfl⟩ := okWide_int hu hval
      obtain ⟨m', rfl, _⟩ := h1
      exact one rfl ⟨_, rfl⟩ rfl
    · rename_i hu
      cases hs
      obtain ⟨m, rfl⟩ := okWide_bool hu hval
      obtain ⟨m', rfl⟩ := h1
      exact one rfl ⟨_, rfl⟩ rfl
    · rename_i hu
      cases hs
      obtain ⟨m, rfl⟩ := okWide_string hu hval
      obtain ⟨m', rfl, _⟩ := h1
      exact one rfl ⟨_, rfl⟩ rfl
    · rename_i fs hu
      simp only [Option.bind_eq_some_iff] at hs
      obtain ⟨⟨ts, fin⟩, _, hs⟩ := hs
      split at hs
      case isFalse => cases hs
      cases hs
      have hval' := hval
      unfold Value.okWide at hval'
      rw [hu] at hval'
      obtain ⟨cs, rfl, _⟩ := hval'
      exact agg cs rfl rfl
    · rename_i m e hu
      simp only [Option.bind_eq_some_iff] at hs
      obtain ⟨T', _, hs⟩ := hs
      split at hs
      case isFalse => cases hs
      cases hs
      have hval' := hval
      unfold Value.okWide at hval'
      rw [hu] at hval'
      obtain ⟨cs, rfl, _⟩ := hval'
      exact agg cs rfl rfl
    · cases hs

/-- A slice of such. -/
theorem read_slice {t e : TypeId} {T : Ty} {v : Value} {d : Nat} {x : DataW H} {ps : List MemPlace} {r : Reach} {b0 : Nat} (hu : P.underlying t = some (.slice e)) (hs : sch P d e = some T) (hval : Value.okWide P W r b0 t v)
    (h : DataW.Trod enc P W base spare held t v x ps) :
    ∃ c, (c = .nils ∨ ∃ css : List (List CV), c = .vec css.flatten css.length false ∧ css.length ≤ maxLen ∧ ∀ a ∈ css, T.has a ∧ a.length = P.cellsOf e) ∧ VR fid (X0 W) W c v := by
  obtain ⟨a0, len, cap, rfl⟩ := okWide_slice hu hval
  obtain ⟨n, hn⟩ := h
  rcases DataW.trod_slice hu hn with ⟨h0, _⟩ | ⟨a, len', cap', elems, rest, m, rfl, hv, _, hb, hlc, hcm, hel, hat, _, _⟩
  · simp only [Value.cells, List.cons.injEq, Value.slice.injEq, and_true] at h0
    obtain ⟨rfl, rfl, rfl⟩ := h0
    exact ⟨.nils, .inl rfl, .nils⟩
  · simp only [Value.cells, List.cons.injEq, Value.slice.injEq, and_true] at hv
    obtain ⟨rfl, rfl, rfl⟩ := hv
    have hsp : a.spot = none := by
      unfold Value.okWide at hval
      rw [hu] at hval
      simp only [Cell.okWide, hu, Cell.ok] at hval
      exact hval.2.2.2.1
    obtain ⟨r, o, sp⟩ := a
    simp only at hsp
    subst hsp
    have hcell : ∀ i, i < len → ∃ cs', W.cells? base (Addr.add ⟨r, o, none⟩ (i * P.cellsOf e)) (P.cellsOf e) = some cs' ∧ ∃ ccs, T.has ccs ∧ RowV fid (X0 W) W ccs cs' := by
      intro i hi
      have h1 := hat i hi
      rw [List.getElem?_eq_getElem (by omega)] at h1
      obtain ⟨cs', h2, h3⟩ := Option.bind_eq_some_iff.1 h1
      exact ⟨cs', h2, read_cells d e T cs' hs m _ h3⟩
    have key : ∀ k, k ≤ len → ∃ css : List (List CV), css.length = k ∧ (∀ a ∈ css, T.has a ∧ a.length = P.cellsOf e) ∧ css.flatten.length = k * P.cellsOf e ∧
        ∀ (i : Nat) (c : CV), css.flatten[i]? = some c → c.one = true ∧ ∃ u, W.cell? ⟨r, o + i, none⟩ = some u ∧ VR fid (X0 W) W c u := by
      intro k
      induction k with
      | zero => intro _; exact ⟨[], rfl, by simp, by simp, by simp⟩
      | succ k ih =>
        intro hk
        obtain ⟨css, h1, h2, h3, h4⟩ := ih (by omega)
        obtain ⟨cs', q1, ccs, q2, q3, q4⟩ := hcell k (by omega)
        obtain ⟨_, w2, w3⟩ := World.cells?_some q1
        refine ⟨css ++ [ccs], by simp [h1], fun a ha => ?_, ?_, fun i c hc => ?_⟩
        · rcases List.mem_append.1 ha with ha | ha
          · exact h2 a ha
          · simp only [List.mem_cons, List.not_mem_nil, or_false] at ha
            subst ha
            exact ⟨q2, by rw [q3, w2]⟩
        · simp only [List.flatten_append, List.flatten_cons, List.flatten_nil, List.append_nil, List.length_append, h3, q3, w2, Nat.succ_mul]
        · simp only [List.flatten_append, List.flatten_cons, List.flatten_nil, List.append_nil] at hc
          rw [List.getElem?_append] at hc
          by_cases hi : i < css.flatten.length
          · rw [if_pos hi] at hc
            exact h4 i c hc
          · rw [if_neg hi] at hc
            obtain ⟨g1, u, g2, g3⟩ := q4 _ c hc
            refine ⟨g1, u, ?_, g3⟩
            have hlt : i - css.flatten.length < P.cellsOf e := by
              have := (List.getElem?_eq_some_iff.1 g2).1
              omega
            have := w3 _ hlt
            rw [g2] at this
            rw [← this]
            congr 1
            unfold Addr.add
            rw [h3] at hi ⊢
            by_cases z1 : k * P.cellsOf e = 0 <;> by_cases z2 : i - k * P.cellsOf e = 0 <;> simp [z1, z2] <;> omega
    obtain ⟨css, h1, h2, h3, h4⟩ := key len (Nat.le_refl _)
    refine ⟨_, .inr ⟨css, rfl, by omega, h2⟩, ?_⟩
    rw [h1]
    refine .vec hlc (by simp) (fun i c hc => ?_) fun i c hc => ?_
    · obtain ⟨g1, u, g2, _⟩ := h4 i c hc
      refine ⟨g1, ?_, by rw [g2]; rfl⟩
      show r < W.heap.size
      unfold World.cell? at g2
      cases hh : W.heap[r]? with
      | none => simp [hh] at g2
      | some _ => exact (Array.getElem?_eq_some_iff.1 hh).1
    · obtain ⟨_, u, g2, g3⟩ := h4 i c hc
      unfold cellD
      rw [g2]
      exact g3

end Go.Cs

/- From a sound contract at the empty canonical world to a law's row. -/
namespace Go.Cs
open Go.RowKit Go.ChangeShapes Go.WideShapes
variable {fid : FuncId → Option Nat} {G : Nat → World → Prop}

theorem law_lifted {H : Type} {enc : TypeId × Value → H} {C : Checked} {os : Os} {f : FuncId} {fn : Func} {s : ChangeSpec} {laid : List (String × DataW Unit)} {Q : Ct} {tb : TypeId}
    (own : ownKnob C.prog.godebug = none) (started : os.Started) (noInit : C.prog.inits.idxOf? f = none) (hfn : C.prog.funcs[f]? = some fn)
    (witness : ∃ (w : World) (tape : Tape) (i : Input), w.os = os ∧ (w.forCall tape i).Shaped C.prog ∧ i.vars = [] ∧ Input.okWide C.prog (w.forCall tape i) .any w.heap.size f i ∧
      ((s.pre enc C.prog fn [] false (w.forCall tape i).memory i.args ∧ laidMetH C.prog laid (w.forCall tape i).memory) ∧ sizedMet enc C.prog fn (OpenSpec.ofChange s) false (w.forCall tape i).memory i.args) ∧
        ({} : Assume).holds C.prog (lone (Frame.enter C.prog f i.args .normal) [] (w.forCall tape i)))
    (hs : Sound C.prog fid G f Q) (hG : ∀ W : World, W.ShapedOpen C.prog → laidMetH C.prog laid W → G W.heap.size W)
    (hvars : s.vars = []) (hres : fn.resultTypes = #[tb]) (htb : C.prog.underlying tb = some .bool) (hl : laidOutB C.prog = true)
    (hpar : (fn.params.toList.all fun t => C.prog.readableRec t && decide (t < C.prog.types.size)) = true)
    (hsp : ∀ ds : List (DataW H), ds.length = fn.params.size → s.fn H (ds ++ []) = { results := [.lit (.bool true)], args := ds })
    (hargs : ∀ (W : World) (base : Nat) (args : Array Value) (ds : List (DataW H)) (ps : List MemPlace), (∀ (j : Nat) t v, fn.params[j]? = some t → args[j]? = some v → Value.okWide C.prog W .any base t v) →
      DataW.TrodAll enc C.prog W 0 (fun _ => true) true fn.params.toList args.toList ds ps → ∃ cargs, Q cargs cw0 (fun v _ => v = .bool true) ∧ ArgsR fid (X0 W) W cargs args) :
    ReturnsInHanded {} C os f .any (fun w args => (s.pre enc C.prog fn [] false w args ∧ laidMetH C.prog laid w) ∧ sizedMet enc C.prog fn (OpenSpec.ofChange s) false w args) (s.post enc C.prog fn false true false false) := by
  refine returnsInHanded_of_calls own started noInit witness ?_
  intro w tape i _ hsh _ hok hpre _
  obtain ⟨_, _, _, fn', hfn', _, _, _, _, hval⟩ := hok
  have e : fn' = fn := Option.some.inj (hfn'.symm.trans hfn)
  subst e
  obtain ⟨⟨⟨ds, gs, before, hw, _⟩, hx⟩, _⟩ := hpre
  have hw' : DataW.Whole enc C.prog fn'.params.toList s.vars false (w.forCall tape i) i.args.toList ds gs before := DataW.Whole.of_heap (w' := w.forCall tape i) (by rfl) hw
  have hx' : laidMetH C.prog laid (w.forCall tape i) := laidMetH.of_heap (w := (w.forCall tape i).memory) (by rfl) hx
  have hw2 := hw'
  obtain ⟨p, q, hA, _, _, _, _⟩ := hw'
  obtain ⟨cargs, hQ, hA'⟩ := hargs _ _ _ _ _ hval hA
  have hlen : ds.length = fn'.params.size := by
    have : ∀ {ts : List TypeId} {vs : List Value} {ds : List (DataW H)} {ps : List MemPlace}, DataW.TrodAll enc C.prog (w.forCall tape i) 0 (fun _ => true) true ts vs ds ps → ds.length = ts.length := by
      intro ts
      induction ts with
      | nil =>
        intro vs ds ps h
        cases vs <;> cases ds <;> simp [DataW.TrodAll] at h ⊢
      | cons t ts ih =>
        intro vs ds ps h
        cases vs <;> cases ds <;> simp only [DataW.TrodAll] at h
        obtain ⟨_, _, _, h2, _⟩ := h
        simp [ih h2]
    simpa using this hA
  refine (law_calls hs (hG _ hsh hx') hQ hA').mono fun e W' ⟨he, hb⟩ => ?_
  subst he
  exact ChangeSpec.post_blind (law_post hvars (hsp ds hlen) hres htb hl hpar hw2 hb)

end Go.Cs

namespace Go.Proofs.YtopnfbffcggnmaaDoor
open Go Go.Cs Go.RowKit Go.ChangeShapes Go.WideShapes
set_option maxRecDepth 100000

theorem lawG (W : World) (h : W.ShapedOpen Tryd.prog) : GP W.heap.size W := by
  have hm := cell_of_shapedOpen_int (g := 1) (k := .i64) (t := 3) (zero := #[.int .i64 0]) h (of_decide_eq_true (by kernel_rfl)) (by kernel_rfl) (by kernel_rfl) (by kernel_rfl) (by kernel_rfl) (by kernel_rfl)
  refine ⟨?_, hm⟩
  obtain ⟨m, hm⟩ := hm
  unfold World.cell? at hm
  cases hh : W.heap[1]? with
  | none => simp [hh] at hm
  | some _ => exact (Array.getElem?_eq_some_iff.1 hh).1

theorem sorts_args {H : Type} {enc : TypeId × Value → H} (W : World) (base : Nat) (args : Array Value) (ds : List (DataW H)) (ps : List MemPlace)
    (hval : ∀ (j : Nat) t v, Tryd.f3.params[j]? = some t → args[j]? = some v → Value.okWide Tryd.prog W .any base t v) (h : DataW.TrodAll enc Tryd.prog W 0 (fun _ => true) true Tryd.f3.params.toList args.toList ds ps) :
    ∃ cargs, wpF (Tab.K tS) f_footmanlaw38_PrioSorts cargs cw0 (fun v _ => v = .bool true) ∧ ArgsR fidP (X0 W) W cargs args := by
  rw [Tryd.params3] at h hval
  obtain ⟨v1, v2, v3, d1, d2, d3, p1, p2, p3, rfl, rfl, rfl, h1, h2, h3⟩ := trodAll_three h
  obtain ⟨a, ka, r1⟩ := read_slice (fid := fidP) (T := .struct [.int .i64, .bool]) (d := 3) Tryd.underlying22 (by kernel_rfl) (hval 0 22 v1 rfl rfl) h1
  obtain ⟨c2, k2, r2⟩ := read_val (fid := fidP) (X := X0 W) (T := .struct [.int .i64, .bool]) (d := 3) (by kernel_rfl) (hval 1 24 v2 rfl rfl) h2
  obtain ⟨c3, k3, r3⟩ := read_val (fid := fidP) (X := X0 W) (T := .struct [.int .i64, .bool]) (d := 3) (by kernel_rfl) (hval 2 24 v3 rfl rfl) h3
  simp only [Ty.has, hasAll] at k2 k3
  obtain ⟨_, _, rfl, ⟨u, rfl, _⟩, _, _, rfl, ⟨s, rfl⟩, rfl⟩ := k2
  obtain ⟨_, _, rfl, ⟨v, rfl, _⟩, _, _, rfl, ⟨t, rfl⟩, rfl⟩ := k3
  obtain ⟨ks, n, hln, ha⟩ : ∃ (ks : List Key) (n : Nat), ks.length = n ∧ (a = .nils ∧ n = 0 ∨ a = .vec (keyCells ks) n false) := by
    rcases ka with rfl | ⟨css, rfl, _, hall⟩
    · exact ⟨[], 0, rfl, .inl ⟨rfl, rfl⟩⟩
    · have : ∀ css : List (List CV), (∀ x ∈ css, (Ty.struct [.int .i64, .bool]).has x ∧ x.length = Tryd.prog.cellsOf 24) → ∃ ks : List Key, ks.length = css.length ∧ css.flatten = keyCells ks := by
        intro css
        induction css with
        | nil => intro _; exact ⟨[], rfl, rfl⟩
        | cons x css ih =>
          intro h
          obtain ⟨ks, h1, h2⟩ := ih fun y hy => h y (List.mem_cons_of_mem _ hy)
          have hx := (h x (List.mem_cons_self ..)).1
          simp only [Ty.has, hasAll] at hx
          obtain ⟨_, _, rfl, ⟨p, rfl, _⟩, _, _, rfl, ⟨q, rfl⟩, rfl⟩ := hx
          exact ⟨(p, q) :: ks, by simp [h1], by rw [List.flatten_cons, h2]; rfl⟩
      obtain ⟨ks, h1, h2⟩ := this css hall
      exact ⟨ks, css.length, h1, .inr (by rw [h2])⟩
  refine ⟨[a, .agg [.int .i64 u, .bool s], .agg [.int .i64 v, .bool t]], sorts_run rfl rfl rfl rfl rfl rfl rfl rfl rfl rfl rfl rfl rfl hln ha u v s t, rfl, fun i c hc => ?_⟩
  match i with
  | 0 => cases hc; exact r1
  | 1 => cases hc; exact r2
  | 2 => cases hc; exact r3
  | i + 3 => simp at hc

theorem own : ownKnob Tryd.prog.godebug = none := by kernel_rfl

theorem sorts_lifted (os : Os) (started : os.Started) (H : Type) (enc : TypeId × Value → H) :
    ReturnsInHanded {} Tryd.checked os 3 .any (fun w args => (Rows.prioSortsSpec.pre enc Tryd.prog Tryd.f3 [] false w args ∧ laidMetH Tryd.prog Rows.prioSortsRow.laid w) ∧ sizedMet enc Tryd.prog Tryd.f3 (OpenSpec.ofChange Rows.prioSortsSpec) false w args)
      (Rows.prioSortsSpec.post enc Tryd.prog Tryd.f3 false true false false) := by
  refine law_lifted (C := Tryd.checked) (fid := fidP) (G := GP) (tb := 4) own started (by kernel_rfl) Tryd.func3
    (ChangeSpec.witness_shaped (enc := enc) (C := Tryd.checked) (os := os) (X := fun w _ => laidMetH Tryd.prog Rows.prioSortsRow.laid w) false (World.laidAll Tryd.prog os Rows.prioSortsRow.laid)
      #[.slice none 0 0, .agg #[.int .i64 0, .bool false], .agg #[.int .i64 0, .bool false]] 8 (World.laidAll_os _ _ _)
      (World.shaped_of_ZipB (by kernel_rfl) (by kernel_rfl)) (by kernel_rfl) (by kernel_rfl) (by kernel_rfl)
      (by rw [MakeChecks.laidMetH_plain _ _ _ (by kernel_rfl)]; exact laidMet_laidAll _ (by kernel_rfl) (by kernel_rfl)))
    sorts_sound (fun W h _ => lawG W h) rfl (by kernel_rfl) Tryd.underlying4 (by kernel_rfl) (by kernel_rfl) ?_ sorts_args
  intro ds hds
  match ds, hds with
  | [d1, d2, d3], _ => rfl

theorem sorts_holds : Rows.PrioSortsSaid :=
  OpenClaim.holds_of_wide 3 Tryd.f3 rfl rfl rfl rfl rfl rfl rfl ⟨rfl, rfl, rfl, rfl, rfl⟩ rfl rfl rfl rfl rfl (by kernel_rfl) Tryd.func3 (by kernel_rfl)
    (of_decide_eq_true (by kernel_rfl)) (by unfold Func.isWrapper; first | (rw [if_pos (by decide +kernel)]; kernel_rfl) | (rw [if_neg (by decide +kernel)]; exact ⟨rfl, rfl⟩))
    (fun os started H enc _ => sorts_lifted os started H enc)

theorem sortsCard_holds : Rows.PrioSortsCardSaid :=
  Claim7.holds_tied_plain_at .later [] [.data, .data, .data, .data, .pinned] true (true, "313178bc140797e64a26d4b98ff6bd5b69bd1d5392dc02368684e3a61bb7e7ce") false sorts_holds (fun _ h => by cases h) (by kernel_rfl) (fun _ h => by cases h) prioSorts_row_tie rfl ⟨rfl, rfl⟩ (by kernel_rfl) rfl
    (fun f fn hf hfn => by
      obtain rfl : f = 3 := Option.some.inj ((show Tryd.prog.funcNamed "footman/footmanlaw38.PrioSorts" = some 3 by kernel_rfl).symm.trans hf) |>.symm
      obtain rfl : fn = Tryd.f3 := (Option.some.inj (Tryd.func3.symm.trans hfn)).symm
      exact ⟨by kernel_rfl, fun j t ht => by
        rw [Tryd.params3] at ht
        have hm : t ∈ [22, 24, 24] := by simpa using Array.mem_of_getElem? ht
        have hall : ([22, 24, 24].all fun u => !Tryd.prog.wantsStandIn u) = true := by kernel_rfl
        exact (show Tryd.prog.wantsStandIn t = false by simpa using List.all_eq_true.1 hall t hm)⟩)
    (by kernel_rfl)
end Go.Proofs.YtopnfbffcggnmaaDoor
