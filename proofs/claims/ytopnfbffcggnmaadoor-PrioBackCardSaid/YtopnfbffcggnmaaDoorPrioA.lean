/- prio: its small functions, told as plain ones. -/
import Derived.Test.YtopnfbffcggnmaaDoorPrioFns
namespace Go.Cs
variable {K : Nat → Ct}

/-- prio.class: a byte's kind. -/
def clsM (n : Int) : Int := if 97 ≤ n ∧ n ≤ 122 then 1 else if 65 ≤ n ∧ n ≤ 90 then 2 else if 48 ≤ n ∧ n ≤ 57 then 4 else if n = 42 then 8 else 0
def clsF : List CV → Option CV
  | [.int .u8 n] => some (.int .i64 (clsM n))
  | _ => none

theorem class_runs : ∀ args v, clsF args = some v → args.length = f_prio_class.np ∧ ∀ cw, Runs K f_prio_class args cw v := by
  intro args v h
  unfold clsF at h
  split at h
  · rename_i n
    cases h
    refine ⟨rfl, fun cw Q hQ => ?_⟩
    have fin : ∀ m : Int, m = clsM n → Q .ret [(2, .int .i64 m)] cw := by
      rintro m rfl
      exact hQ .ret _ _ _ (.inr rfl) rfl (.int _ _) (fun _ _ => rfl)
    simp only [f_prio_class, go_sem, stepOp, go_sem]
    repeat' first
      | (refine fin _ ?_; simp only [clsM, decide_eq_true_eq, decide_eq_false_iff_not, ge_iff_le, beq_iff_eq, beq_eq_false_iff_ne, ne_eq] at *; split <;> (try split) <;> (try split) <;> (try split) <;> first | rfl | omega)
      | (refine wpif_of (fun hb => ?_) (fun hb => ?_) <;> simp only [go_sem, stepOp, hb, go_sem])
      | (refine wpb_of (fun hb => ?_) (fun hb => ?_) <;> simp only [go_sem, stepOp, hb, go_sem])

  · cases h

/-- prio.number's loop: what is left, and the number so far. -/
def numL : List UInt8 → Int → CV
  | [], n => .tup [.int .i64 n, .bool true]
  | c :: r, n => if clsM c.toNat = 4 then numL r (IntKind.wrap .i64 (IntKind.wrap .i64 (n * 10) + IntKind.wrap .i64 (IntKind.wrap .u8 (c.toNat - 48)))) else .tup [.int .i64 0, .bool false]
def negT : CV → CV
  | .tup [.int k n, .bool true] => .tup [.int k (k.wrap (0 - n)), .bool true]
  | c => c
def cutM (s p : List UInt8) : List UInt8 × Bool := if s.take p.length = p then (s.drop p.length, true) else (s, false)
def cutF : List CV → Option CV
  | [.str s, .str p] => some (.tup [.str (cutM s p).1, .bool (cutM s p).2])
  | _ => none
def numP (part : List UInt8) (below : Bool) : CV :=
  if part = [] ∨ 9 < part.length then .tup [.int .i64 0, .bool false] else if below then negT (numL part 0) else numL part 0
def numM (s : List UInt8) : CV := numP (cutM s [45]).1 (cutM s [45]).2
def numF : List CV → Option CV
  | [.str s] => some (numM s)
  | _ => none

theorem cell_at {l : List UInt8} {i : Nat} {c : UInt8} {r : List UInt8} (h : l.drop i = c :: r) : (byteCells l)[i]? = some (.int .u8 c.toNat) ∧ i < l.length ∧ l.drop (i + 1) = r := by
  have hlt : i < l.length := by
    rcases Nat.lt_or_ge i l.length with h' | h'
    · exact h'
    · rw [List.drop_of_length_le h'] at h; cases h
  rw [List.drop_eq_getElem_cons hlt] at h
  simp only [List.cons.injEq] at h
  refine ⟨?_, hlt, h.2⟩
  simp [byteCells, hlt, h.1]

theorem number_runs (h38 : K 38 = pureC cutF) (h39 : K 39 = pureC clsF) : ∀ args v, numF args = some v → args.length = f_prio_number.np ∧ ∀ cw, Runs K f_prio_number args cw v := by
  intro args v h
  unfold numF at h
  split at h
  · rename_i s
    cases h
    refine ⟨rfl, fun cw Q hQ => ?_⟩
    have fin : ∀ n b, CV.tup [.int .i64 n, .bool b] = numM s → Q .ret [(2, .int .i64 n), (3, .bool b)] cw := by
      intro n b e
      refine hQ .ret _ _ _ (.inr rfl) rfl ?_ (fun _ _ => rfl)
      rw [← e]
      exact frz_plain rfl
    simp only [f_prio_number, go_sem, stepOp, go_sem, wpa_pure h38, wpa_pure h39, cutF]
    unfold numM at fin
    clear hQ
    generalize cutM s [45] = pb at *
    obtain ⟨part, below⟩ := pb
    simp only at fin ⊢
    have bad : (part = [] ∨ 9 < part.length) → Q .ret [(2, .int .i64 0), (3, .bool false)] cw := fun hh => fin _ _ (by rw [numP, if_pos hh])
    cases he : (part == [])
    case true =>
      simp only [go_sem]
      exact bad (.inl (by simpa using he))
    simp only [go_sem]
    cases hl : decide ((part.length : Int) > 9)
    case true =>
      simp only [go_sem]
      exact bad (.inr (by simp only [decide_eq_true_eq] at hl; omega))
    have hpe : part ≠ [] := by simpa using he
    have hple : part.length ≤ 9 := by simp only [decide_eq_false_iff_not] at hl; omega
    have fin2 : ∀ n b, CV.tup [.int .i64 n, .bool b] = (if below then negT (numL part 0) else numL part 0) → Q .ret [(2, .int .i64 n), (3, .bool b)] cw := by
      intro n b e
      refine fin n b ?_
      have hneg : ¬ (part = [] ∨ 9 < part.length) := by
        rintro (h | h)
        · exact hpe h
        · omega
      rw [numP, if_neg hneg]
      exact e
    simp only [go_sem]
    refine wpk_loop (fun m ρ cw' => ∃ i n, m = part.length - i ∧ i ≤ part.length ∧ cw' = cw ∧ ρ = [(5, .bool below), (6, .int .i64 n), (22, .vec (byteCells part) part.length false), (23, .int .i64 part.length), (24, .int .i64 i)] ∧ numL (part.drop i) n = numL part 0) part.length
      ⟨0, 0, by omega, by omega, rfl, rfl, by simp⟩ ?_
    rintro m ρ cw' N ⟨i, n, rfl, hi, rfl, rfl, hn⟩ hN
    simp only [go_sem]
    cases hlt : decide ((i : Int) < part.length)
    case false =>
      simp only [decide_eq_false_iff_not] at hlt
      rw [List.drop_of_length_le (by omega)] at hn
      simp only [go_sem]
      cases below <;> simp only [go_sem] <;> refine fin2 _ _ ?_ <;> rw [← hn] <;> rfl
    simp only [decide_eq_true_eq] at hlt
    obtain ⟨c, r, hcr⟩ : ∃ c r, part.drop i = c :: r := ⟨_, _, List.drop_eq_getElem_cons (by omega)⟩
    obtain ⟨hat, _, hr⟩ := cell_at hcr
    have hin : 0 ≤ (i : Int) ∧ (i : Int) < part.length := ⟨by omega, hlt⟩
    rw [hcr] at hn
    simp only [numL] at hn
    simp only [go_sem, hin, hat, wpa_pure h39, clsF, and_self]
    cases hc : (clsM c.toNat != 4)
    case true =>
      rw [if_neg (by simpa using hc)] at hn
      simp only [go_sem]
      cases below <;> exact fin2 _ _ (by rw [← hn]; rfl)
    rw [if_pos (by simpa using hc)] at hn
    simp only [go_sem, wrap_i64 (n := (i : Int) + 1) (by omega) (by omega)]
    refine hN _ _ _ ?_ ⟨i + 1, _, rfl, by omega, rfl, rfl, ?_⟩
    · omega
    · rw [hr]; exact hn
  · cases h

end Go.Cs
