/- prio: parsing; printing. -/
import Derived.Test.YtopnfbffcggnmaaDoorPrioG
namespace Go.Cs
variable {K : Nat → Ct}

def parseF : List CV → Option CV
  | [.str s] => if s.length ≤ 100000 then some (mergeM 3 false s) else none
  | _ => none

theorem mergeM_shape (u : Int) (st : Bool) (s : List UInt8) : ∃ a b e, mergeM u st s = .tup [.agg [.int .i64 a, .bool b], .int .i64 e] := by
  unfold mergeM
  split
  · exact ⟨_, _, _, rfl⟩
  · split
    · exact ⟨_, _, _, rfl⟩
    · exact ⟨_, _, _, rfl⟩

theorem parse_runs (h19 : K 19 = pureC usualF) (h23 : K 23 = pureC mergeF) : ∀ args v, parseF args = some v → args.length = f_prio_Parse.np ∧ ∀ cw, Runs K f_prio_Parse args cw v := by
  intro args v h
  unfold parseF at h
  split at h
  · rename_i s
    split at h
    case isFalse => cases h
    rename_i hlen
    cases h
    refine ⟨rfl, fun cw Q hQ => ?_⟩
    obtain ⟨a, b, e, hm⟩ := mergeM_shape 3 false s
    rw [hm] at hQ
    have fin : ∀ (cw' : CW), cw'.get cw.next = some (.cells [.int .i64 a, .bool b]) → (∀ b, b < cw.next → cw'.get b = cw.get b) → Q .ret [(2, .ptr cw.next 0), (3, .int .i64 e)] cw' := by
      intro cw' hg hk
      refine hQ .ret _ cw' (.tup [.agg [.int .i64 a, .bool b], .int .i64 e]) (.inr rfl) ?_ ?_ hk
      · simp [resV, resAll, resOne, f_prio_Parse, Env.get, hg, ldc]
      · refine .tup rfl fun i c d hc hd => ?_
        rw [hc] at hd; cases hd
        match i with
        | 0 => cases hc; exact frz_plain rfl
        | 1 => cases hc; exact .int _ _
        | i + 2 => simp at hc
    clear hQ
    simp only [f_prio_Parse, go_sem, wpa_pure h19, wpa_pure h23, usualF, mergeF, hlen, hm]
    refine fin _ (by simp only [go_sem]) fun b' hb' => ?_
    have b1 : ¬ b' = cw.next := by omega
    simp only [go_sem, b1]
  · cases h

end Go.Cs
