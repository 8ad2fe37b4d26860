/- prio: printing. -/
import Derived.Test.YtopnfbffcggnmaaDoorPrioH
import Derived.Lib.ItoaNum
import Derived.Lib.Join
namespace Go.Cs
variable {K : Nat → Ct}

def strsOf : List CV → Option (List (List UInt8))
  | [] => some []
  | .str l :: r => (strsOf r).bind fun ls => some (l :: ls)
  | _ => none
/-- strings.Join. -/
def joinF : List CV → CW → Option (CV × CW)
  | [v, .str sep], cw => if isStr v = true then none else (seqOf cw 1 v).bind fun p => (strsOf p.1).bind fun ls => if (Lib.join ls sep).length ≤ 100000 ∧ ls.length ≤ 1000 then some (.str (Lib.join ls sep), cw) else none
  | _, _ => none
def itoaF : List CV → Option CV
  | [.int .i64 n] => if 0 ≤ n ∧ n < 100 then some (.str (Lib.decDigits n.toNat)) else none
  | _ => none

def printL (u : Int) (st : Bool) : List (List UInt8) := (if u = 3 then [] else [[117, 61] ++ Lib.decDigits u.toNat]) ++ (if st then [[105]] else [])
def printM (u : Int) (st : Bool) : CV := if checkM u ≠ 0 then .tup [.str [], .int .i64 (checkM u)] else .tup [.str (Lib.join (printL u st) [44, 32]), .int .i64 0]
def printF : List CV → Option CV
  | [.agg [.int .i64 u, .bool st]] => some (printM u st)
  | _ => none

theorem dec_len : ∀ n : Nat, n < 8 → (Lib.decDigits n).length ≤ 10 := by
  intro n h
  rw [Lib.decDigits, dif_pos (by omega)]
  simp

theorem print_runs (h11 : K 11 = pureC checkF) (h26 : K 26 = pureC itoaF) (h27 : K 27 = effC joinF) : ∀ args v, printF args = some v → args.length = f_prio_Print.np ∧ ∀ cw, Runs K f_prio_Print args cw v := by
  intro args v h
  unfold printF at h
  split at h
  · rename_i u st
    cases h
    refine ⟨rfl, fun cw Q hQ => ?_⟩
    have fin : ∀ (cw' : CW) l e, CV.tup [.str l, .int .i64 e] = printM u st → (∀ b, b < cw.next → cw'.get b = cw.get b) → Q .ret [(2, .str l), (3, .int .i64 e)] cw' := by
      intro cw' l e he hk
      refine hQ .ret _ _ _ (.inr rfl) rfl ?_ hk
      rw [← he]; exact frz_plain rfl
    clear hQ
    simp only [f_prio_Print, go_sem, wpa_pure h11, checkF]
    cases hc : (checkM u != 0) <;> simp only [go_sem]
    case true =>
      refine fin _ _ _ ?_ fun b hb => ?_
      · rw [printM, if_pos (by simpa using hc)]
      · rw [push_old (by omega)]
    have hc0 : checkM u = 0 := by simpa using hc
    have hr : 0 ≤ u ∧ u ≤ 7 := by
      unfold checkM at hc0
      split at hc0
      · cases hc0
      · omega
    have hdl := dec_len u.toNat (by omega)
    have hM : printM u st = .tup [.str (Lib.join (printL u st) [44, 32]), .int .i64 0] := by rw [printM, if_neg (by simp [hc0])]
    rw [hM] at fin
    have hi : 0 ≤ u ∧ u < 100 := by omega
    have hlim : (1 : Nat) ≤ lim := by decide
    have hlim2 : (2 : Nat) ≤ lim := by decide
    have hjl : (Lib.join (printL u st) [44, 32]).length ≤ 100000 := by
      unfold printL Lib.join
      split <;> split <;> simp [List.intercalate] <;> omega
    have hll : (printL u st).length ≤ 1000 := by
      unfold printL
      split <;> split <;> simp
    have hadd : 2 + (Lib.decDigits u.toNat).length ≤ 9223372036854775807 := by omega
    have hj : ∀ (v : CV) (cw' : CW) (cs : List CV) (n : Nat), isStr v = false → seqOf cw' 1 v = some (cs, n) → strsOf cs = some (printL u st) → joinF [v, .str [44, 32]] cw' = some (.str (Lib.join (printL u st) [44, 32]), cw') := by
      intro v cw' cs n h0 h1 h2
      simp only [joinF, h0, Bool.false_eq_true, if_false, h1, h2, Option.bind_some, if_pos (And.intro hjl hll)]
    cases h3 : (u != 3) <;> simp only [go_sem]
    · have h3' : u = 3 := by simpa using h3
      cases st <;> simp only [go_sem, hlim, wpa_eff h27]
      · rw [hj _ _ [] 0 rfl (by simp only [go_sem]) (by simp [printL, h3', strsOf])]
        simp only [go_sem]
        exact fin _ _ _ rfl fun b hb => by rw [push_old (by omega)]
      · rw [hj _ _ [.str [105]] 1 rfl (by simp only [go_sem]) (by simp [printL, h3', strsOf])]
        simp only [go_sem]
        exact fin _ _ _ rfl fun b hb => by rw [push_old (by simp only [go_sem]; omega), push_old (by omega)]
    · have h3' : ¬ u = 3 := by simpa using h3
      simp only [wpa_pure h26, itoaF, hi, hadd, hlim, go_sem]
      cases st <;> simp only [go_sem, hlim, wpa_eff h27]
      · rw [hj _ _ [.str (117 :: 61 :: Lib.decDigits u.toNat)] 1 rfl (by simp only [go_sem]) (by simp [printL, h3', strsOf])]
        simp only [go_sem]
        exact fin _ _ _ rfl fun b hb => by rw [push_old (by simp only [go_sem]; omega), push_old (by omega)]
      · simp only [go_sem, hlim2, ne_eq, not_true_eq_false, wpa_eff h27]
        rw [hj _ _ [.str (117 :: 61 :: Lib.decDigits u.toNat), .str [105]] 2 rfl (by simp only [go_sem]) (by simp [printL, h3', strsOf])]
        simp only [go_sem]
        exact fin _ _ _ rfl fun b hb => by rw [push_old (by simp only [go_sem]; omega), kill_old (by omega), push_old (by simp only [go_sem]; omega), push_old (by omega)]
  · cases h

end Go.Cs
