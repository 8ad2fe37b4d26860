/- The seat of prio: awake(), by the interpreter. -/
import Derived.Test.YtopnfbffcggnmaaDoorSeatRun
namespace Go.Cs
open Go.Proofs (Tryd.prog)

def Gt : List (Nat × RF) := [(8, f_footmanlaw38_awake), (13, f_prio_Less), (18, f_footmanref15_SameInts), (16, f_prio_Sort), (28, f_prio_Prio_compare), (30, f_slices_SortStableFunc_int_int), (29, f_prio_Sort_1), (37, f_slices_stableCmpFunc_int), (54, f_slices_insertionSortCmpFunc_int), (55, f_slices_symMergeCmpFunc_int), (66, f_slices_rotateCmpFunc_int), (77, f_slices_swapRangeCmpFunc_int)]

theorem ent8 : Ent Tryd.prog fidP (pureX Gt t21) (8, f_footmanlaw38_awake) := fun f hf => by
  obtain rfl := lk_only (n := 5) (by kernel_rfl) f hf
  exact ⟨_, _, Go.Proofs.Tryd.func5, by decide, e_footmanlaw38_awake, by kernel_rfl⟩
theorem ent13 : Ent Tryd.prog fidP (pureX Gt t21) (13, f_prio_Less) := fun f hf => by
  obtain rfl := lk_only (n := 10) (by kernel_rfl) f hf
  exact ⟨_, _, Go.Proofs.Tryd.func10, by decide, e_prio_Less, by kernel_rfl⟩
theorem ent18 : Ent Tryd.prog fidP (pureX Gt t21) (18, f_footmanref15_SameInts) := fun f hf => by
  obtain rfl := lk_only (n := 12) (by kernel_rfl) f hf
  exact ⟨_, _, Go.Proofs.Tryd.func12, by decide, e_footmanref15_SameInts, by kernel_rfl⟩
theorem ent16 : Ent Tryd.prog fidP (pureX Gt t21) (16, f_prio_Sort) := fun f hf => by
  obtain rfl := lk_only (n := 13) (by kernel_rfl) f hf
  exact ⟨_, _, Go.Proofs.Tryd.func13, by decide, e_prio_Sort, by kernel_rfl⟩
theorem ent28 : Ent Tryd.prog fidP (pureX Gt t21) (28, f_prio_Prio_compare) := fun f hf => by
  obtain rfl := lk_only (n := 23) (by kernel_rfl) f hf
  exact ⟨_, _, Go.Proofs.Tryd.func23, by decide, e_prio_Prio_compare, by kernel_rfl⟩
theorem ent30 : Ent Tryd.prog fidP (pureX Gt t21) (30, f_slices_SortStableFunc_int_int) := fun f hf => by
  obtain rfl := lk_only (n := 24) (by kernel_rfl) f hf
  exact ⟨_, _, Go.Proofs.Tryd.func24, by decide, e_slices_SortStableFunc_int_int, by kernel_rfl⟩
theorem ent29 : Ent Tryd.prog fidP (pureX Gt t21) (29, f_prio_Sort_1) := fun f hf => by
  obtain rfl := lk_only (n := 25) (by kernel_rfl) f hf
  exact ⟨_, _, Go.Proofs.Tryd.func25, by decide, e_prio_Sort_1, by kernel_rfl⟩
theorem ent37 : Ent Tryd.prog fidP (pureX Gt t21) (37, f_slices_stableCmpFunc_int) := fun f hf => by
  obtain rfl := lk_only (n := 35) (by kernel_rfl) f hf
  exact ⟨_, _, Go.Proofs.Tryd.func35, by decide, e_slices_stableCmpFunc_int, by kernel_rfl⟩
theorem ent54 : Ent Tryd.prog fidP (pureX Gt t21) (54, f_slices_insertionSortCmpFunc_int) := fun f hf => by
  obtain rfl := lk_only (n := 52) (by kernel_rfl) f hf
  exact ⟨_, _, Go.Proofs.Tryd.func52, by decide, e_slices_insertionSortCmpFunc_int, by kernel_rfl⟩
theorem ent55 : Ent Tryd.prog fidP (pureX Gt t21) (55, f_slices_symMergeCmpFunc_int) := fun f hf => by
  obtain rfl := lk_only (n := 53) (by kernel_rfl) f hf
  exact ⟨_, _, Go.Proofs.Tryd.func53, by decide, e_slices_symMergeCmpFunc_int, by kernel_rfl⟩
theorem ent216 : Ent Tryd.prog fidP (pureX Gt t21) (66, f_slices_rotateCmpFunc_int) := fun f hf => by
  obtain rfl := lk_only (n := 70) (by kernel_rfl) f hf
  exact ⟨_, _, Go.Proofs.Tryd.func70, by decide, e_slices_rotateCmpFunc_int, by kernel_rfl⟩
theorem ent77 : Ent Tryd.prog fidP (pureX Gt t21) (77, f_slices_swapRangeCmpFunc_int) := fun f hf => by
  obtain rfl := lk_only (n := 84) (by kernel_rfl) f hf
  exact ⟨_, _, Go.Proofs.Tryd.func84, by decide, e_slices_swapRangeCmpFunc_int, by kernel_rfl⟩
theorem ents : ∀ p ∈ Gt, Ent Tryd.prog fidP (pureX Gt t21) p := by
  simp only [Gt, List.forall_mem_cons]
  exact ⟨ent8, ent13, ent18, ent16, ent28, ent30, ent29, ent37, ent54, ent55, ent216, ent77, fun _ h => by cases h⟩

def isT : Option (CV × CW) → Bool
  | some (.bool b, _) => b
  | _ => false
theorem awake_true : isT (callX (runG Gt) (Tab.F t21) 60 8 [] ⟨fun _ => none, 0⟩) = true := by kernel_rfl

theorem awake_sound : Sound Tryd.prog fidP GP 5 (Con.p awakeF).ct := by
  have hx : ∃ r : CV × CW, callX (runG Gt) (Tab.F t21) 60 8 [] ⟨fun _ => none, 0⟩ = some r ∧ r.1 = .bool true := by
    have h := awake_true
    generalize callX (runG Gt) (Tab.F t21) 60 8 [] ⟨fun _ => none, 0⟩ = o at h ⊢
    unfold isT at h
    split at h
    · subst h; exact ⟨_, rfl, rfl⟩
    · cases h
  have hs := run_sound follows ents ks21 60 5 8 (by kernel_rfl) ⟨[], ⟨fun _ => none, 0⟩, fun _ _ => True, by obtain ⟨r, h, _⟩ := hx; exact ⟨r, h, trivial⟩⟩
  refine (sound_closed (v := .bool true) hs GP_st (args := []) rfl rfl ?_).weaken ?_
  · obtain ⟨r, h1, h2⟩ := hx
    exact ⟨r, h1, h2⟩
  · rintro args cw Q ⟨v, hv, hq⟩
    unfold awakeF at hv
    split at hv
    · cases hv; exact ⟨rfl, hq⟩
    · cases hv

def tA : Tab := (8, .p awakeF) :: t21
theorem ksA : KSound Tryd.prog fidP GP (Tab.K tA) := Tab.cons_sound ks21 fun f hf => by
  obtain rfl := lk_only (n := 5) (by kernel_rfl) f hf
  exact awake_sound

theorem back_sound : Sound Tryd.prog fidP GP 4 (wpF (Tab.K tA) f_footmanlaw38_PrioBack) :=
  sound_of follows ksA (Tab.ok tA) Go.Proofs.Tryd.func4 (by decide) e_footmanlaw38_PrioBack (by kernel_rfl) fun _ _ _ h => h

end Go.Cs
