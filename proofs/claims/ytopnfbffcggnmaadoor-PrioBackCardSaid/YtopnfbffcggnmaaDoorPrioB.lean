/- prio: prefixes, words, bare values. -/
import Derived.Test.YtopnfbffcggnmaaDoorPrioA
import Derived.Lib.Bytealg
namespace Go.Cs
variable {K : Nat → Ct}

def hasF : List CV → Option CV
  | [.str s, .str p] => some (.bool (s.take p.length == p))
  | _ => none

theorem has_runs : ∀ args v, hasF args = some v → args.length = f_internal_stringslite_HasPrefix.np ∧ ∀ cw, Runs K f_internal_stringslite_HasPrefix args cw v := by
  intro args v h
  unfold hasF at h
  split at h
  · rename_i s p
    cases h
    refine ⟨rfl, fun cw Q hQ => ?_⟩
    have fin : ∀ b, b = (s.take p.length == p) → Q .ret [(4, .bool b)] cw := by
      rintro b rfl
      exact hQ .ret _ _ _ (.inr rfl) rfl (.bool _) (fun _ _ => rfl)
    clear hQ
    simp only [f_internal_stringslite_HasPrefix, go_sem]
    cases hl : decide ((s.length : Int) ≥ p.length)
    case false =>
      simp only [go_sem]
      refine fin _ ?_
      simp only [decide_eq_false_iff_not] at hl
      symm
      rw [beq_eq_false_iff_ne]
      intro h
      have := congrArg List.length h
      simp at this
      omega
    simp only [decide_eq_true_eq] at hl
    have h1 : 0 ≤ (0 : Int) ∧ (0 : Int) ≤ p.length ∧ (p.length : Int) ≤ s.length := ⟨by omega, by omega, hl⟩
    simp only [go_sem, h1]
    exact fin _ rfl
  · cases h

theorem cutS_runs (h67 : K 67 = pureC hasF) : ∀ args v, cutF args = some v → args.length = f_internal_stringslite_CutPrefix.np ∧ ∀ cw, Runs K f_internal_stringslite_CutPrefix args cw v := by
  intro args v h
  unfold cutF at h
  split at h
  · rename_i s p
    cases h
    refine ⟨rfl, fun cw Q hQ => ?_⟩
    have fin : ∀ l b, l = (cutM s p).1 → b = (cutM s p).2 → Q .ret [(4, .str l), (5, .bool b)] cw := by
      rintro l b rfl rfl
      exact hQ .ret _ _ _ (.inr rfl) rfl (frz_plain rfl) (fun _ _ => rfl)
    clear hQ
    simp only [f_internal_stringslite_CutPrefix, go_sem, wpa_pure h67, hasF]
    cases hp : (s.take p.length == p)
    case false =>
      simp only [go_sem]
      have : ¬ s.take p.length = p := by simpa using hp
      exact fin _ _ (by simp [cutM, this]) (by simp [cutM, this])
    have hp' : s.take p.length = p := by simpa using hp
    have hle : p.length ≤ s.length := by
      have := congrArg List.length hp'
      simp at this
      omega
    have h1 : 0 ≤ (p.length : Int) ∧ (p.length : Int) ≤ s.length ∧ (s.length : Int) ≤ s.length := ⟨by omega, by omega, by omega⟩
    simp only [go_sem, h1]
    exact fin _ _ (by simp [cutM, hp']) (by simp [cutM, hp'])
  · cases h

theorem cut_runs (h56 : K 56 = pureC cutF) : ∀ args v, cutF args = some v → args.length = f_strings_CutPrefix.np ∧ ∀ cw, Runs K f_strings_CutPrefix args cw v := by
  intro args v h
  unfold cutF at h
  split at h
  · rename_i s p
    cases h
    refine ⟨rfl, fun cw Q hQ => ?_⟩
    have fin : Q .ret [(4, .str (cutM s p).1), (5, .bool (cutM s p).2)] cw :=
      hQ .ret _ _ _ (.inr rfl) rfl (frz_plain rfl) (fun _ _ => rfl)
    simp only [f_strings_CutPrefix, go_sem, wpa_pure h56, cutF]
    exact fin
  · cases h

def idxF : List CV → Option CV
  | [.str o, .int .u8 n] => some (.int .i64 (Lib.indexByte o n.toNat.toUInt8))
  | _ => none

/-- May a byte stand in a word? -/
def wordB (k : Int) (o : List UInt8) (later : Bool) (c : UInt8) : Bool :=
  (andI .i64 (clsM c.toNat) k != 0) || (later && (clsM c.toNat == 4 || decide (0 ≤ Lib.indexByte o c.toNat.toUInt8)))
def wordL (k : Int) (o : List UInt8) : Bool → List UInt8 → Bool
  | _, [] => true
  | later, c :: r => wordB k o later c && wordL k o true r
def wordM (s : List UInt8) (k : Int) (o : List UInt8) : Bool := wordL k o false s && s != []
def wordF : List CV → Option CV
  | [.str s, .int .i64 k, .str o] => if s.length ≤ 100000 then some (.bool (wordM s k o)) else none
  | _ => none

theorem word_runs (h39 : K 39 = pureC clsF) (h65 : K 65 = pureC idxF) : ∀ args v, wordF args = some v → args.length = f_prio_word.np ∧ ∀ cw, Runs K f_prio_word args cw v := by
  intro args v h
  unfold wordF at h
  split at h
  · rename_i s k o
    split at h
    case isFalse => cases h
    rename_i hlen
    cases h
    refine ⟨rfl, fun cw Q hQ => ?_⟩
    have fin : ∀ b, b = wordM s k o → Q .ret [(6, .bool b)] cw := by
      rintro b rfl
      exact hQ .ret _ _ _ (.inr rfl) rfl (.bool _) (fun _ _ => rfl)
    clear hQ
    simp only [f_prio_word, go_sem]
    refine wpk_loop (fun m ρ cw' => ∃ i : Nat, m = s.length - i ∧ i ≤ s.length ∧ cw' = cw ∧ ρ = [(0, .str s), (1, .int .i64 k), (2, .str o), (11, .vec (byteCells s) s.length false), (12, .int .i64 s.length), (13, .int .i64 i)] ∧ wordL k o (decide (0 < i)) (s.drop i) = wordL k o false s) s.length
      ⟨0, by omega, by omega, rfl, rfl, by simp⟩ ?_
    rintro m ρ cw' N ⟨i, rfl, hi, rfl, rfl, hn⟩ hN
    simp only [go_sem]
    cases hlt : decide ((i : Int) < s.length)
    case false =>
      simp only [decide_eq_false_iff_not] at hlt
      rw [List.drop_of_length_le (by omega)] at hn
      simp only [go_sem]
      refine fin _ ?_
      simp only [wordL] at hn
      rw [wordM, ← hn]
      simp only [Bool.true_and, bne]
    simp only [decide_eq_true_eq] at hlt
    obtain ⟨c, r, hcr⟩ : ∃ c r, s.drop i = c :: r := ⟨_, _, List.drop_eq_getElem_cons (by omega)⟩
    obtain ⟨hat, _, hr⟩ := cell_at hcr
    have hin : 0 ≤ (i : Int) ∧ (i : Int) < s.length := ⟨by omega, hlt⟩
    have hsne : (s != []) = true := by
      rw [bne_iff_ne]; rintro rfl; simp at hcr
    rw [hcr] at hn
    simp only [wordL] at hn
    have good : wordB k o (decide (0 < i)) c = true → N [(0, .str s), (1, .int .i64 k), (2, .str o), (11, .vec (byteCells s) s.length false), (12, .int .i64 s.length), (13, .int .i64 ((i : Int) + 1))] cw' := by
      intro hb
      refine hN _ _ _ ?_ ⟨i + 1, rfl, by omega, rfl, rfl, ?_⟩
      · omega
      · rw [hr, ← hn, hb]
        simp
    have bad : wordB k o (decide (0 < i)) c = false → Q .ret [(6, .bool false)] cw' := by
      intro hb
      refine fin _ ?_
      rw [wordM, ← hn, hb]; simp
    unfold wordB at good bad
    simp only [go_sem, hin, hat, wpa_pure h39, clsF, and_self, wrap_i64 (n := (i : Int) + 1) (by omega) (by omega)]
    have hB : decide ((i : Int) > 0) = decide (0 < i) := by
      by_cases h0 : 0 < i
      · rw [decide_eq_true h0, decide_eq_true (by omega)]
      · rw [decide_eq_false h0, decide_eq_false (by omega)]
    rw [hB]
    generalize (andI .i64 (clsM c.toNat) k != 0) = A at *
    generalize decide (0 < i) = B at *
    have hcl : clsF [.int .u8 c.toNat] = some (.int .i64 (clsM c.toNat)) := rfl
    generalize hC : (clsM c.toNat == 4) = C at *
    generalize hD : decide (0 ≤ Lib.indexByte o c.toNat.toUInt8) = D at *
    clear hcl
    cases A <;> cases B <;> simp only [go_sem, wpa_pure h39, clsF, hC, wrap_i64 (n := (i : Int) + 1) (by omega) (by omega)]
    all_goals first
      | exact good (by simp)
      | exact bad (by simp)
      | skip
    all_goals (cases C <;> simp only [go_sem, wpa_pure h65, idxF, ge_iff_le, hD, wrap_i64 (n := (i : Int) + 1) (by omega) (by omega)])
    all_goals first
      | exact good (by simp)
      | exact bad (by simp)
      | skip
    all_goals (cases D <;> simp only [go_sem, wrap_i64 (n := (i : Int) + 1) (by omega) (by omega)])
    all_goals first
      | exact good (by simp)
      | exact bad (by simp)
  · cases h

end Go.Cs
