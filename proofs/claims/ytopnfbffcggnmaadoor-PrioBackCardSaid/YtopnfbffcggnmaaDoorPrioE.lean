/- prio: what may be, what is usual, the last of a key. -/
import Derived.Test.YtopnfbffcggnmaaDoorPrioD
namespace Go.Cs
variable {K : Nat → Ct}

def checkM (u : Int) : Int := if u < 0 ∨ 7 < u then 8 else 0
def checkF : List CV → Option CV
  | [.agg [.int .i64 u, .bool _]] => some (.int .i64 (checkM u))
  | _ => none

theorem check_runs : ∀ args v, checkF args = some v → args.length = f_prio_Check.np ∧ ∀ cw, Runs K f_prio_Check args cw v := by
  intro args v h
  unfold checkF at h
  split at h
  · rename_i u st
    cases h
    refine ⟨rfl, fun cw Q hQ => ?_⟩
    have fin : ∀ (n : Int), n = checkM u → Q .ret [(2, .int .i64 n)] (cw.push (.cells [.int .i64 u, .bool st])) := by
      rintro n rfl
      exact hQ .ret _ _ _ (.inr rfl) rfl (.int _ _) (fun b hb => push_old (by omega))
    clear hQ
    simp only [f_prio_Check, go_sem]
    cases h1 : decide (u < 0) <;> simp only [go_sem]
    · cases h2 : decide (u > 7) <;> simp only [go_sem] <;> refine fin _ ?_ <;> simp only [decide_eq_true_eq, decide_eq_false_iff_not] at h1 h2 <;> unfold checkM
      · rw [if_neg (by omega)]
      · rw [if_pos (by omega)]
    · refine fin _ ?_
      simp only [decide_eq_true_eq] at h1
      rw [checkM, if_pos (.inl h1)]
  · cases h

def usualF : List CV → Option CV
  | [] => some (.agg [.int .i64 3, .bool false])
  | _ => none

theorem usual_runs : ∀ args v, usualF args = some v → args.length = f_prio_Usual.np ∧ ∀ cw, Runs K f_prio_Usual args cw v := by
  intro args v h
  unfold usualF at h
  split at h
  · cases h
    refine ⟨rfl, fun cw Q hQ => ?_⟩
    simp only [f_prio_Usual, go_sem]
    refine hQ .ret _ _ (.agg [.int .i64 3, .bool false]) (.inr rfl) ?_ (frz_plain rfl) fun b hb => ?_
    · simp [resV, resAll, resOne, f_prio_Usual, go_sem]
    · rw [set_old (by omega), push_old (by omega)]
  · cases h

/-- The last value of a key among members' cells. -/
def lastL (key : List UInt8) : List CV → List UInt8 → List UInt8
  | .str k :: .str v :: r, acc => lastL key r (if k = key then v else acc)
  | _, acc => acc
def isStr : CV → Bool
  | .str _ => true
  | _ => false
def lastF : List CV → CW → Option (CV × CW)
  | [.str key, .ptr b 0], cw => match cw.get b with
    | some (.cells [.nils]) => some (.str [], cw)
    | some (.cells [.vec cs n _]) => if cs.length = n * 2 ∧ n ≤ 1000 ∧ cs.all isStr = true then some (.str (lastL key cs []), cw) else none
    | _ => none
  | _, _ => none

theorem last_runs : ∀ args cw v cw', lastF args cw = some (v, cw') → args.length = f_prio_Merge_1.np ∧ cw' = cw ∧ Runs K f_prio_Merge_1 args cw v := by
  intro args cw v cw' h
  unfold lastF at h
  split at h
  · rename_i key b
    split at h
    · rename_i hg
      cases h
      refine ⟨rfl, rfl, fun Q hQ => ?_⟩
      have fin : Q .ret [(3, .str [])] cw := hQ .ret _ _ _ (.inr rfl) rfl (.str _) (fun _ _ => rfl)
      clear hQ
      simp only [f_prio_Merge_1, go_sem, hg]
      refine wpk_loop (fun m ρ cw' => cw' = cw ∧ ρ = [(0, .str key), (4, .str []), (7, .nils), (8, .int .i64 0), (9, .int .i64 0)]) 0 ⟨rfl, rfl⟩ ?_
      rintro m ρ cw' N ⟨rfl, rfl⟩ hN
      have hd : decide ((0 : Int) < 0) = false := by decide
      simp only [go_sem, hd]
      exact fin
    · rename_i cs n clip hg
      split at h
      case isFalse => cases h
      rename_i hc
      obtain ⟨hcl, hn, hst⟩ := hc
      cases h
      refine ⟨rfl, rfl, fun Q hQ => ?_⟩
      have fin : ∀ (cw' : CW) l, l = lastL key cs [] → (∀ b, b < cw.next → cw'.get b = cw.get b) → Q .ret [(3, .str l)] cw' := by
        rintro cw' l rfl hk
        exact hQ .ret _ _ _ (.inr rfl) rfl (.str _) hk
      clear hQ
      simp only [f_prio_Merge_1, go_sem, hg]
      refine wpk_loop (fun m ρ cw' => ∃ (i : Nat) (acc : List UInt8), m = n - i ∧ i ≤ n ∧ ρ = [(0, .str key), (4, .str acc), (7, .vec cs n clip), (8, .int .i64 n), (9, .int .i64 i)] ∧
          lastL key (cs.drop (i * 2)) acc = lastL key cs [] ∧ (∀ b, b < cw.next → cw'.get b = cw.get b) ∧ cw.next ≤ cw'.next) n ⟨0, [], by omega, by omega, rfl, by simp, fun _ _ => rfl, Nat.le_refl _⟩ ?_
      rintro m ρ cw' N ⟨i, acc, rfl, hi, rfl, hl, hk, hnx⟩ hN
      simp only [go_sem]
      cases hlt : decide ((i : Int) < n) <;> simp only [go_sem]
      · simp only [decide_eq_false_iff_not] at hlt
        rw [List.drop_of_length_le (by omega)] at hl
        exact fin _ _ hl hk
      · simp only [decide_eq_true_eq] at hlt
        obtain ⟨x, y, r, hxy⟩ : ∃ x y r, cs.drop (i * 2) = x :: y :: r :=
          ⟨_, _, _, (List.drop_eq_getElem_cons (by omega)).trans (congrArg _ (List.drop_eq_getElem_cons (by omega)))⟩
        have hall : ∀ c ∈ cs, ∃ l, c = .str l := by
          intro c hc
          have := List.all_eq_true.1 hst c hc
          cases c <;> simp [isStr] at this
          exact ⟨_, rfl⟩
        have hsub : ∀ c ∈ cs.drop (i * 2), c ∈ cs := fun c hc => List.mem_of_mem_drop hc
        obtain ⟨k, rfl⟩ := hall x (hsub x (by rw [hxy]; simp))
        obtain ⟨v, rfl⟩ := hall y (hsub y (by rw [hxy]; simp))
        have hr : cs.drop ((i + 1) * 2) = r := by
          have h2 : (i + 1) * 2 = i * 2 + 2 := by omega
          rw [h2, ← List.drop_drop, hxy]
          rfl
        rw [hxy] at hl
        simp only [lastL] at hl
        have hin : 0 ≤ (i : Int) ∧ (i : Int) < n := ⟨by omega, hlt⟩
        have hle : i * 2 + 2 ≤ cs.length := by omega
        have hw := wrap_i64 (n := (i : Int) + 1) (by omega) (by omega)
        simp only [go_sem, hin, hle, hxy, hw]
        cases hkk : (k == key) <;> simp only [go_sem, hw]
        · rw [if_neg (by simpa using hkk)] at hl
          refine hN _ _ _ ?_ ⟨i + 1, acc, rfl, by omega, rfl, by rw [hr]; exact hl, fun b' hb' => ?_, ?_⟩
          · omega
          · rw [set_old (by omega), push_old (by omega)]; exact hk b' hb'
          · simp only [go_sem]; omega
        · rw [if_pos (by simpa using hkk)] at hl
          refine hN _ _ _ ?_ ⟨i + 1, v, rfl, by omega, rfl, by rw [hr]; exact hl, fun b' hb' => ?_, ?_⟩
          · omega
          · rw [set_old (by omega), push_old (by omega)]; exact hk b' hb'
          · simp only [go_sem]; omega
    · cases h
  · cases h

end Go.Cs
