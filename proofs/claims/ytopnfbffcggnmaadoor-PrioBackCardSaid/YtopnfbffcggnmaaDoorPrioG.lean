/- prio: merging. -/
import Derived.Test.YtopnfbffcggnmaaDoorPrioE
namespace Go.Cs
variable {K : Nat → Ct}

def itemsC (s : List UInt8) : List CV := match itemsM s with
  | .tup [.vec cs _ _, _] => cs
  | _ => []
def itemsE (s : List UInt8) : Int := match itemsM s with
  | .tup [_, .int _ e] => e
  | _ => 0

theorem itemsM_shape (s : List UInt8) : (itemsM s = .tup [.nils, .int .i64 (itemsE s)] ∧ itemsC s = []) ∨
    ∃ n, itemsM s = .tup [.vec (itemsC s) n false, .int .i64 (itemsE s)] ∧ (itemsC s).length = n * 2 ∧ n ≤ 1000 ∧ (itemsC s).all isStr = true := by
  have key : ∀ c, itemsM s = c → ((∃ e, c = .tup [.nils, .int .i64 e]) ∨ ∃ cs n, c = .tup [.vec cs n false, .int .i64 0] ∧ cs.length = n * 2 ∧ n ≤ 1000 ∧ cs.all isStr = true) → (itemsM s = .tup [.nils, .int .i64 (itemsE s)] ∧ itemsC s = []) ∨
      ∃ n, itemsM s = .tup [.vec (itemsC s) n false, .int .i64 (itemsE s)] ∧ (itemsC s).length = n * 2 ∧ n ≤ 1000 ∧ (itemsC s).all isStr = true := by
    rintro c hc (⟨e, rfl⟩ | ⟨cs, n, rfl, h1, h2, h3⟩)
    · left
      simp [itemsE, itemsC, hc]
    · right
      refine ⟨n, ?_⟩
      simp only [itemsE, itemsC, hc]
      exact ⟨trivial, h1, h2, h3⟩
  refine key _ rfl ?_
  unfold itemsM
  split
  · exact .inl ⟨_, rfl⟩
  · split
    · exact .inl ⟨_, rfl⟩
    · cases h : itemsL (splitP s) with
      | none => exact .inl ⟨_, rfl⟩
      | some cs =>
        simp only
        split
        · exact .inl ⟨_, rfl⟩
        · split
          · exact .inl ⟨_, rfl⟩
          · refine .inr ⟨cs, _, rfl, itemsL_len h, by omega, List.all_eq_true.2 fun c hc => ?_⟩
            obtain ⟨l, rfl⟩ := itemsL_strs h c hc
            rfl

theorem items_last (s : List UInt8) : ∃ lv, itemsM s = .tup [lv, .int .i64 (itemsE s)] ∧ (lv = .nils ∨ ∃ cs n, lv = .vec cs n false) ∧
    ∀ (key : List UInt8) (cw : CW) (b : Nat), cw.get b = some (.cells [lv]) → lastF [.str key, .ptr b 0] cw = some (.str (lastL key (itemsC s) []), cw) := by
  rcases itemsM_shape s with ⟨hi, hcs⟩ | ⟨n, hi, hcl, hn, hst⟩
  · refine ⟨.nils, hi, .inl rfl, fun key cw b hg => ?_⟩
    simp only [lastF, hg, hcs, lastL]
  · refine ⟨_, hi, .inr ⟨_, _, rfl⟩, fun key cw b hg => ?_⟩
    simp only [lastF, hg]
    rw [if_pos ⟨hcl, hn, hst⟩]

def mergeU (u : Int) (l : List UInt8) : Int := if numOk l = true ∧ 0 ≤ numV l ∧ numV l ≤ 7 then numV l else u
def mergeS (st : Bool) (l : List UInt8) : Bool := if l = [63, 49] then true else if l = [63, 48] then false else st
def mergeM (u : Int) (st : Bool) (s : List UInt8) : CV :=
  if checkM u ≠ 0 then .tup [.agg [.int .i64 0, .bool false], .int .i64 (checkM u)] else
  if itemsE s ≠ 0 then .tup [.agg [.int .i64 0, .bool false], .int .i64 (itemsE s)] else
  .tup [.agg [.int .i64 (mergeU u (lastL [117] (itemsC s) [])), .bool (mergeS st (lastL [105] (itemsC s) []))], .int .i64 0]
def mergeF : List CV → Option CV
  | [.agg [.int .i64 u, .bool st], .str s] => if s.length ≤ 100000 then some (mergeM u st s) else none
  | _ => none

theorem merge_runs (h11 : K 11 = pureC checkF) (h24 : K 24 = pureC itemsF) (h31 : K 31 = effC lastF) (h32 : K 32 = pureC numF) : ∀ args v, mergeF args = some v → args.length = f_prio_Merge.np ∧ ∀ cw, Runs K f_prio_Merge args cw v := by
  intro args v h
  unfold mergeF at h
  split at h
  · rename_i u st s
    split at h
    case isFalse => cases h
    rename_i hlen
    cases h
    refine ⟨rfl, fun cw Q hQ => ?_⟩
    have fin : ∀ (cw' : CW) (a : Int) (b : Bool) (e : Int), CV.tup [.agg [.int .i64 a, .bool b], .int .i64 e] = mergeM u st s → cw'.get (cw.next + 1) = some (.cells [.int .i64 a, .bool b]) → (∀ b, b < cw.next → cw'.get b = cw.get b) →
        Q .ret [(4, .ptr (cw.next + 1) 0), (5, .int .i64 e)] cw' := by
      intro cw' a b e he hg hk
      refine hQ .ret _ cw' (.tup [.agg [.int .i64 a, .bool b], .int .i64 e]) (.inr rfl) ?_ ?_ hk
      · simp [resV, resAll, resOne, f_prio_Merge, Env.get, hg, ldc]
      · rw [← he]
        refine .tup rfl fun i c d hc hd => ?_
        rw [hc] at hd; cases hd
        match i with
        | 0 => cases hc; exact frz_plain rfl
        | 1 => cases hc; exact .int _ _
        | i + 2 => simp at hc
    clear hQ
    simp only [f_prio_Merge, go_sem, wpa_pure h11, checkF]
    cases hc : (checkM u != 0) <;> simp only [go_sem]
    case true =>
      refine fin _ 0 false _ ?_ ?_ fun b hb => ?_
      · rw [mergeM, if_pos (by simpa using hc)]
      · simp only [go_sem]
      · rw [set_old (by omega), push_old (by simp only [go_sem]; omega), push_old (by omega)]
    have hc0 : ¬ checkM u ≠ 0 := by simpa using hc
    obtain ⟨lv, hi, hlv, hlast⟩ := items_last s
    have hM : ¬ itemsE s ≠ 0 → mergeM u st s = .tup [.agg [.int .i64 (mergeU u (lastL [117] (itemsC s) [])), .bool (mergeS st (lastL [105] (itemsC s) []))], .int .i64 0] := by
      intro he0
      rw [mergeM, if_neg hc0, if_neg he0]
    have e1 : ∀ (o1 o2 o3 o4 o5 : CO) b, b < cw.next → (((((cw.push o1).push o2).push o3).set (cw.next + 1 + 1) o4).set (cw.next + 1) o5).get b = cw.get b := by
      intro o1 o2 o3 o4 o5 b hb
      rw [set_old (by omega), set_old (by omega), push_old (by simp only [go_sem]; omega), push_old (by simp only [go_sem]; omega), push_old (by omega)]
    rcases hlv with rfl | ⟨cs, n, rfl⟩
    all_goals
      simp only [wpa_pure h24, itemsF, hlen, hi, go_sem, wpa_eff h31]
      cases he : (itemsE s != 0) <;> simp only [go_sem]
      case true =>
        refine fin _ 0 false _ ?_ ?_ fun b hb => ?_
        · rw [mergeM, if_neg hc0, if_pos (by simpa using he)]
        · simp only [go_sem]
        · exact e1 _ _ _ _ _ b hb
      replace hM := hM (by simpa using he)
      rw [hM] at fin
      rw [wpa_eff h31, hlast _ _ _ (by simp only [go_sem])]
      simp only [go_sem, wpa_pure h32, numF, numM_eq]
      generalize lastL [117] (itemsC s) [] = lu at *
      have fin' : ∀ (cw' : CW) (a : Int) (b : Bool), a = mergeU u lu → b = mergeS st (lastL [105] (itemsC s) []) → cw'.get (cw.next + 1) = some (.cells [.int .i64 a, .bool b]) → (∀ b, b < cw.next → cw'.get b = cw.get b) →
          Q .ret [(4, .ptr (cw.next + 1) 0), (5, .int .i64 0)] cw' := by
        rintro cw' a b rfl rfl hg hk
        exact fin _ _ _ _ rfl hg hk
      cases t1 : numOk lu <;> simp only [go_sem]
      case true =>
        cases t2 : decide (numV lu ≥ 0) <;> simp only [go_sem]
        case true =>
          cases t3 : decide (numV lu ≤ 7) <;> simp only [go_sem]
          case true =>
            have hu : mergeU u lu = numV lu := by
              simp only [decide_eq_true_eq] at t2 t3
              rw [mergeU, if_pos ⟨t1, by omega, t3⟩]
            rw [wpa_eff h31, hlast _ _ _ (by simp only [go_sem])]
            simp only [go_sem]
            cases l1 : (lastL [105] (itemsC s) [] == [63, 49]) <;> simp only [go_sem]
            case true =>
              refine fin' _ (numV lu) true hu.symm (by simp only [mergeS, if_pos (beq_iff_eq.1 l1)]) (by simp only [go_sem]) fun b hb => ?_
              have b1 : ¬ b = cw.next := by omega
              have b2 : ¬ b = cw.next + 1 := by omega
              have b3 : ¬ b = cw.next + 1 + 1 := by omega
              simp only [go_sem, b1, b2, b3]
            have n1 : ¬ lastL [105] (itemsC s) [] = [63, 49] := by simpa using l1
            cases l2 : (lastL [105] (itemsC s) [] == [63, 48]) <;> simp only [go_sem]
            case true =>
              refine fin' _ (numV lu) false hu.symm (by simp only [mergeS, if_neg n1, if_pos (beq_iff_eq.1 l2)]) (by simp only [go_sem]) fun b hb => ?_
              have b1 : ¬ b = cw.next := by omega
              have b2 : ¬ b = cw.next + 1 := by omega
              have b3 : ¬ b = cw.next + 1 + 1 := by omega
              simp only [go_sem, b1, b2, b3]
            case false =>
              have n2 : ¬ lastL [105] (itemsC s) [] = [63, 48] := by simpa using l2
              refine fin' _ (numV lu) st hu.symm (by simp only [mergeS, if_neg n1, if_neg n2]) (by simp only [go_sem]) fun b hb => ?_
              have b1 : ¬ b = cw.next := by omega
              have b2 : ¬ b = cw.next + 1 := by omega
              have b3 : ¬ b = cw.next + 1 + 1 := by omega
              simp only [go_sem, b1, b2, b3]
          case false =>
            have hu : mergeU u lu = u := by
              simp only [decide_eq_false_iff_not] at t3
              rw [mergeU, if_neg (fun h => t3 h.2.2)]
            rw [wpa_eff h31, hlast _ _ _ (by simp only [go_sem])]
            simp only [go_sem]
            cases l1 : (lastL [105] (itemsC s) [] == [63, 49]) <;> simp only [go_sem]
            case true =>
              refine fin' _ u true hu.symm (by simp only [mergeS, if_pos (beq_iff_eq.1 l1)]) (by simp only [go_sem]) fun b hb => ?_
              have b1 : ¬ b = cw.next := by omega
              have b2 : ¬ b = cw.next + 1 := by omega
              have b3 : ¬ b = cw.next + 1 + 1 := by omega
              simp only [go_sem, b1, b2, b3]
            have n1 : ¬ lastL [105] (itemsC s) [] = [63, 49] := by simpa using l1
            cases l2 : (lastL [105] (itemsC s) [] == [63, 48]) <;> simp only [go_sem]
            case true =>
              refine fin' _ u false hu.symm (by simp only [mergeS, if_neg n1, if_pos (beq_iff_eq.1 l2)]) (by simp only [go_sem]) fun b hb => ?_
              have b1 : ¬ b = cw.next := by omega
              have b2 : ¬ b = cw.next + 1 := by omega
              have b3 : ¬ b = cw.next + 1 + 1 := by omega
              simp only [go_sem, b1, b2, b3]
            case false =>
              have n2 : ¬ lastL [105] (itemsC s) [] = [63, 48] := by simpa using l2
              refine fin' _ u st hu.symm (by simp only [mergeS, if_neg n1, if_neg n2]) (by simp only [go_sem]) fun b hb => ?_
              have b1 : ¬ b = cw.next := by omega
              have b2 : ¬ b = cw.next + 1 := by omega
              have b3 : ¬ b = cw.next + 1 + 1 := by omega
              simp only [go_sem, b1, b2, b3]
        case false =>
          have hu : mergeU u lu = u := by
            simp only [decide_eq_false_iff_not] at t2
            rw [mergeU, if_neg (fun h => t2 h.2.1)]
          rw [wpa_eff h31, hlast _ _ _ (by simp only [go_sem])]
          simp only [go_sem]
          cases l1 : (lastL [105] (itemsC s) [] == [63, 49]) <;> simp only [go_sem]
          case true =>
            refine fin' _ u true hu.symm (by simp only [mergeS, if_pos (beq_iff_eq.1 l1)]) (by simp only [go_sem]) fun b hb => ?_
            have b1 : ¬ b = cw.next := by omega
            have b2 : ¬ b = cw.next + 1 := by omega
            have b3 : ¬ b = cw.next + 1 + 1 := by omega
            simp only [go_sem, b1, b2, b3]
          have n1 : ¬ lastL [105] (itemsC s) [] = [63, 49] := by simpa using l1
          cases l2 : (lastL [105] (itemsC s) [] == [63, 48]) <;> simp only [go_sem]
          case true =>
            refine fin' _ u false hu.symm (by simp only [mergeS, if_neg n1, if_pos (beq_iff_eq.1 l2)]) (by simp only [go_sem]) fun b hb => ?_
            have b1 : ¬ b = cw.next := by omega
            have b2 : ¬ b = cw.next + 1 := by omega
            have b3 : ¬ b = cw.next + 1 + 1 := by omega
            simp only [go_sem, b1, b2, b3]
          case false =>
            have n2 : ¬ lastL [105] (itemsC s) [] = [63, 48] := by simpa using l2
            refine fin' _ u st hu.symm (by simp only [mergeS, if_neg n1, if_neg n2]) (by simp only [go_sem]) fun b hb => ?_
            have b1 : ¬ b = cw.next := by omega
            have b2 : ¬ b = cw.next + 1 := by omega
            have b3 : ¬ b = cw.next + 1 + 1 := by omega
            simp only [go_sem, b1, b2, b3]
      case false =>
        have hu : mergeU u lu = u := by rw [mergeU, if_neg (fun h => by rw [t1] at h; exact Bool.noConfusion h.1)]
        rw [wpa_eff h31, hlast _ _ _ (by simp only [go_sem])]
        simp only [go_sem]
        cases l1 : (lastL [105] (itemsC s) [] == [63, 49]) <;> simp only [go_sem]
        case true =>
          refine fin' _ u true hu.symm (by simp only [mergeS, if_pos (beq_iff_eq.1 l1)]) (by simp only [go_sem]) fun b hb => ?_
          have b1 : ¬ b = cw.next := by omega
          have b2 : ¬ b = cw.next + 1 := by omega
          have b3 : ¬ b = cw.next + 1 + 1 := by omega
          simp only [go_sem, b1, b2, b3]
        have n1 : ¬ lastL [105] (itemsC s) [] = [63, 49] := by simpa using l1
        cases l2 : (lastL [105] (itemsC s) [] == [63, 48]) <;> simp only [go_sem]
        case true =>
          refine fin' _ u false hu.symm (by simp only [mergeS, if_neg n1, if_pos (beq_iff_eq.1 l2)]) (by simp only [go_sem]) fun b hb => ?_
          have b1 : ¬ b = cw.next := by omega
          have b2 : ¬ b = cw.next + 1 := by omega
          have b3 : ¬ b = cw.next + 1 + 1 := by omega
          simp only [go_sem, b1, b2, b3]
        case false =>
          have n2 : ¬ lastL [105] (itemsC s) [] = [63, 48] := by simpa using l2
          refine fin' _ u st hu.symm (by simp only [mergeS, if_neg n1, if_neg n2]) (by simp only [go_sem]) fun b hb => ?_
          have b1 : ¬ b = cw.next := by omega
          have b2 : ¬ b = cw.next + 1 := by omega
          have b3 : ¬ b = cw.next + 1 + 1 := by omega
          simp only [go_sem, b1, b2, b3]
  · cases h

end Go.Cs
