/- What stands between commas: the library's words, and ours. -/
import Derived.Test.YtopnfbffcggnmaaDoorPrioD
import Derived.Lib.Split
import Derived.Lib.SplitLaws
namespace Go.Cs

theorem index_comma_eq (r : List UInt8) : Lib.index (44 :: r) [44] = 0 := by simp [Lib.index, List.isPrefixOf]
theorem index_comma_ne {c : UInt8} (r : List UInt8) (h : ¬ c = 44) : Lib.index (c :: r) [44] = if Lib.index r [44] == -1 then -1 else Lib.index r [44] + 1 := by
  have : ¬ (44 : UInt8) = c := fun e => h e.symm
  simp [Lib.index, List.isPrefixOf, this]

theorem splitK_comma : ∀ s : List UInt8, Lib.splitK [44] 0 (Lib.count s [44]) s = splitP s
  | [] => by
    have : Lib.count [] [44] = 0 := by decide
    rw [this]; rfl
  | c :: r => by
    have ih := splitK_comma r
    by_cases h : c = 44
    · subst h
      rw [Lib.count_cons_eq, Nat.add_comm, Lib.splitK, index_comma_eq]
      simp only [splitP, if_true]
      rw [← ih]
      rfl
    · rw [Lib.count_cons_ne c 44 r h]
      simp only [splitP, if_neg h]
      rw [← ih]
      cases hk : Lib.count r [44] with
      | zero => rfl
      | succ k =>
        have hm : ¬ (Lib.index r [44] == -1) = true := by
          intro hh
          have := Lib.count_miss (beq_iff_eq.1 hh)
          omega
        have hge := Lib.index_ge r [44]
        have hne : Lib.index r [44] ≠ -1 := fun e => hm (beq_iff_eq.2 e)
        obtain ⟨i, hi⟩ : ∃ i : Nat, Lib.index r [44] = i := ⟨(Lib.index r [44]).toNat, by omega⟩
        rw [Lib.splitK, Lib.splitK, index_comma_ne r h, if_neg hm, hi]
        have e1 : ¬ ((i : Int) + 1 == -1) = true := by intro hh; have := beq_iff_eq.1 hh; omega
        have e2 : ¬ ((i : Int) == -1) = true := by intro hh; have := beq_iff_eq.1 hh; omega
        have e3 : ((i : Int) + 1).toNat = i + 1 := by omega
        rw [if_neg e1, if_neg e2, e3]
        simp

theorem splitB_comma (s : List UInt8) : (Lib.splitB ⟨#[44]⟩ 0 (Lib.countB ⟨s.toArray⟩ ⟨#[44]⟩) ⟨s.toArray⟩) = (splitP s).map fun l => ⟨l.toArray⟩ := by
  have h := Lib.splitB_data ⟨#[44]⟩ 0 (Lib.countB ⟨s.toArray⟩ ⟨#[44]⟩) ⟨s.toArray⟩
  have h2 : Lib.splitK [44] 0 (Lib.countB ⟨s.toArray⟩ ⟨#[44]⟩) s = splitP s := splitK_comma s
  have h3 : (Lib.splitB ⟨#[44]⟩ 0 (Lib.countB ⟨s.toArray⟩ ⟨#[44]⟩) ⟨s.toArray⟩).map (·.data.toList) = splitP s := h.trans h2
  rw [← h3, List.map_map]
  symm
  conv => rhs; rw [← List.map_id (Lib.splitB ⟨#[44]⟩ 0 (Lib.countB ⟨s.toArray⟩ ⟨#[44]⟩) ⟨s.toArray⟩)]
  exact List.map_congr_left fun b _ => by cases b; rfl

theorem countB_comma (s : List UInt8) : Lib.countB ⟨s.toArray⟩ ⟨#[44]⟩ + 1 = (splitP s).length := by
  have h := Lib.splitB_all ⟨#[44]⟩ (by decide) 0 _ (⟨s.toArray⟩ : ByteArray) rfl
  rw [splitB_comma, List.length_map] at h
  exact h.symm

end Go.Cs
