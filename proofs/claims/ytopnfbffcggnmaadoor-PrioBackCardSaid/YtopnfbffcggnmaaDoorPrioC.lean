/- prio: bare values, members. -/
import Derived.Test.YtopnfbffcggnmaaDoorPrioB
import Derived.Lib.IndexMore
import Derived.Lib.SlTrimSet
namespace Go.Cs
variable {K : Nat → Ct}

theorem numL_shape : ∀ (l : List UInt8) (n : Int), ∃ m b, numL l n = .tup [.int .i64 m, .bool b]
  | [], n => ⟨n, true, rfl⟩
  | c :: r, n => by
    simp only [numL]
    split
    · exact numL_shape r _
    · exact ⟨0, false, rfl⟩
theorem numM_shape (s : List UInt8) : ∃ m b, numM s = .tup [.int .i64 m, .bool b] := by
  unfold numM numP
  split
  · exact ⟨0, false, rfl⟩
  · obtain ⟨m, b, h⟩ := numL_shape (cutM s [45]).1 0
    rw [h]
    split
    · cases b
      · exact ⟨_, _, rfl⟩
      · exact ⟨_, _, rfl⟩
    · exact ⟨_, _, rfl⟩
def numOk (s : List UInt8) : Bool := match numM s with
  | .tup [_, .bool b] => b
  | _ => false
def numV (s : List UInt8) : Int := match numM s with
  | .tup [.int _ n, _] => n
  | _ => 0
theorem numM_eq (s : List UInt8) : numM s = .tup [.int .i64 (numV s), .bool (numOk s)] := by
  obtain ⟨m, b, h⟩ := numM_shape s
  simp [numV, numOk, h]

def bareM (s : List UInt8) : Bool := numOk s || (s == [63, 49] || s == [63, 48] || wordM s 11 [95, 45, 46, 58, 47])
def bareF : List CV → Option CV
  | [.str s] => if s.length ≤ 100000 then some (.bool (bareM s)) else none
  | _ => none

theorem bare_runs (h32 : K 32 = pureC numF) (h49 : K 49 = pureC wordF) : ∀ args v, bareF args = some v → args.length = f_prio_bare.np ∧ ∀ cw, Runs K f_prio_bare args cw v := by
  intro args v h
  unfold bareF at h
  split at h
  · rename_i s
    split at h
    case isFalse => cases h
    rename_i hlen
    cases h
    refine ⟨rfl, fun cw Q hQ => ?_⟩
    have fin : ∀ b, b = bareM s → Q .ret [(2, .bool b)] cw := by
      rintro b rfl
      exact hQ .ret _ _ _ (.inr rfl) rfl (.bool _) (fun _ _ => rfl)
    clear hQ
    unfold bareM at fin
    simp only [f_prio_bare, go_sem, wpa_pure h32, numF, numM_eq]
    cases h1 : numOk s <;> simp only [go_sem]
    · cases h2 : (s == [63, 49]) <;> simp only [go_sem]
      · cases h3 : (s == [63, 48]) <;> simp only [go_sem, wpa_pure h49, wordF, if_pos hlen]
        all_goals exact fin _ (by rw [h1, h2, h3]; simp)
      · exact fin _ (by rw [h1, h2]; simp)
    · exact fin _ (by rw [h1]; simp)
  · cases h

def trimF : List CV → Option CV
  | [.str s, .str p] => if s.length ≤ 100000 ∧ p = [32, 9] then some (.str (Lib.trimS s p)) else none
  | _ => none
def cut3F : List CV → Option CV
  | [.str s, .str p] => if s.length ≤ 100000 then some (.tup [.str (Lib.cut s p).1, .str (Lib.cut s p).2.1, .bool (Lib.cut s p).2.2]) else none
  | _ => none

/-- A member's key and value. -/
def keyM (s : List UInt8) : List UInt8 := (Lib.cut (Lib.trimS s [32, 9]) [61]).1
def valM (s : List UInt8) : List UInt8 := if (Lib.cut (Lib.trimS s [32, 9]) [61]).2.2 then (Lib.cut (Lib.trimS s [32, 9]) [61]).2.1 else [63, 49]
def itemOk (s : List UInt8) : Bool := wordM (keyM s) 9 [95, 45, 46] && bareM (valM s)
def itemF : List CV → Option CV
  | [.str s] => if s.length ≤ 100000 then some (.tup [.agg [.str (keyM s), .str (valM s)], .bool (itemOk s)]) else none
  | _ => none

theorem trimS_len (s p : List UInt8) : (Lib.trimS s p).length ≤ s.length := by
  have h1 : ∀ l : List UInt8, (l.dropWhile (p.contains ·)).length ≤ l.length := fun l => (List.dropWhile_suffix _).length_le
  unfold Lib.trimS Lib.trimLeftS Lib.trimRightS
  refine Nat.le_trans (h1 _) ?_
  rw [List.length_reverse]
  refine Nat.le_trans (h1 _) ?_
  rw [List.length_reverse]
  exact Nat.le_refl _

theorem cut_len (s p : List UInt8) : (Lib.cut s p).1.length ≤ s.length ∧ (Lib.cut s p).2.1.length ≤ s.length := by
  unfold Lib.cut
  split
  · exact ⟨by simp only [List.length_take]; omega, by simp only [List.length_drop]; omega⟩
  · exact ⟨Nat.le_refl _, Nat.zero_le _⟩

theorem item_runs (h33 : K 33 = pureC trimF) (h48 : K 48 = pureC cut3F) (h49 : K 49 = pureC wordF) (h50 : K 50 = pureC bareF) : ∀ args v, itemF args = some v → args.length = f_prio_item.np ∧ ∀ cw, Runs K f_prio_item args cw v := by
  intro args v h
  unfold itemF at h
  split at h
  · rename_i s
    split at h
    case isFalse => cases h
    rename_i hlen
    cases h
    refine ⟨rfl, fun cw Q hQ => ?_⟩
    have ht := trimS_len s [32, 9]
    obtain ⟨hc1, hc2⟩ := cut_len (Lib.trimS s [32, 9]) [61]
    have hkl : (keyM s).length ≤ 100000 := Nat.le_trans hc1 (Nat.le_trans ht hlen)
    have hvl : (valM s).length ≤ 100000 := by
      unfold valM
      split
      · exact Nat.le_trans hc2 (Nat.le_trans ht hlen)
      · simp
    have fin : ∀ (cw' : CW), cw'.get cw.next = some (.cells [.str (keyM s), .str (valM s)]) → (∀ b, b < cw.next → cw'.get b = cw.get b) → Q .ret [(2, .ptr cw.next 0), (3, .bool (itemOk s))] cw' := by
      intro cw' h1 h2
      refine hQ .ret _ cw' (.tup [.agg [.str (keyM s), .str (valM s)], .bool (itemOk s)]) (.inr rfl) ?_ ?_ h2
      · simp [resV, resAll, resOne, f_prio_item, Env.get, h1, ldc]
      · refine .tup rfl fun i c d hc hd => ?_
        rw [hc] at hd; cases hd
        match i with
        | 0 => cases hc; exact frz_plain rfl
        | 1 => cases hc; exact .bool _
        | i + 2 => simp at hc
    clear hQ
    have join : ∀ (l : List Fr) (ρ : Env), wpo K Q [⟨some 16, .mov (.t 4), none, []⟩, ⟨some 17, .mov (.t 5), none, []⟩, ⟨some 18, .build [.str [], .str []] [(0, 1, .t 16), (1, 1, .t 17)], none, []⟩, ⟨some 19, .mov (.t 4), none, []⟩,
        ⟨some 20, .call 49 [.t 19, .c (.int .i64 9), .c (.str [95, 45, 46])], none, []⟩, ⟨some 21, .mov (.t 20), none, []⟩, ⟨some 22, .mov (.t 5), some (21, true), []⟩, ⟨some 23, .call 50 [.t 22], some (21, true), []⟩,
        ⟨some 24, .pick (.t 21) (.t 23) (.c (.bool false)), none, []⟩, ⟨none, .store 2 (.t 2) (.t 18), none, []⟩, ⟨some 3, .mov (.t 24), none, []⟩] [2, 3] [.code .ret]
        [(2, .ptr cw.next 0), (4, .str (keyM s)), (5, .str (valM s))] (cw.push (.cells [.str [], .str []])) := by
      intro _ _
      simp only [go_sem, wpa_pure h49, wordF, if_pos hkl]
      cases hw : wordM (keyM s) 9 [95, 45, 46] <;> simp only [go_sem, wpa_pure h50, bareF, if_pos hvl]
      · have hok : itemOk s = false := by simp [itemOk, hw]
        rw [hok] at fin
        refine fin _ (by simp [go_sem]) fun b hb => ?_
        simp only [go_sem]
        rw [if_neg (by omega), if_neg (by omega)]
      · have hok : itemOk s = bareM (valM s) := by simp [itemOk, hw]
        rw [hok] at fin
        refine fin _ (by simp [go_sem]) fun b hb => ?_
        simp only [go_sem]
        rw [if_neg (by omega), if_neg (by omega)]
    unfold keyM valM at join
    simp only [f_prio_item, go_sem, wpa_pure h33, trimF, hlen, wpa_pure h48, cut3F, if_pos (Nat.le_trans ht hlen)]
    cases hh : (Lib.cut (Lib.trimS s [32, 9]) [61]).2.2 <;> rw [hh] at join <;> simp only [go_sem] at join ⊢ <;> exact join [] []
  · cases h

end Go.Cs
