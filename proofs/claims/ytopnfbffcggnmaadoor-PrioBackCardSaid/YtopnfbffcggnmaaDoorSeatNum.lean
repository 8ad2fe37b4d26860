/- The seat of prio: our numbers of its functions; each resolves to its printed form. -/
import Derived.Test.YtopnfbffcggnmaaDoorChecked
import Derived.Test.YtopnfbffcggnmaaDoorPrioFnsB
import Derived.KernelRfl
namespace Go.Cs
/-- Our numbers of the seat's functions. -/
def fidP : FuncId → Option Nat := fun f => ([(3, 21), (4, 25), (5, 8), (6, 9), (7, 10), (8, 11), (9, 12), (10, 13), (11, 14), (12, 18), (13, 16), (14, 15), (15, 17), (16, 19), (17, 20), (18, 22), (19, 23), (20, 24), (21, 26), (22, 27), (23, 28), (24, 30), (25, 29), (26, 31), (27, 32), (28, 33), (29, 34), (30, 35), (31, 36), (33, 53), (35, 37), (36, 38), (37, 39), (38, 41), (39, 40), (40, 42), (41, 44), (42, 43), (43, 46), (44, 45), (45, 47), (46, 48), (47, 49), (48, 50), (49, 51), (50, 52), (52, 54), (53, 55), (54, 56), (55, 57), (56, 58), (57, 59), (58, 60), (59, 61), (60, 62), (61, 63), (62, 64), (63, 65), (64, 75), (66, 76), (70, 66), (71, 67), (72, 68), (73, 69), (74, 70), (75, 71), (76, 72), (77, 73), (78, 74), (79, 79), (80, 80), (81, 81), (82, 82), (83, 85), (84, 77), (85, 86), (86, 87), (88, 89), (89, 78), (90, 83), (91, 84), (92, 88)] : List (Nat × Nat)).lookup f
theorem e_prio_Print : resF Go.Proofs.Tryd.prog fidP [] Go.Proofs.Tryd.f6 = some f_prio_Print.strip := by kernel_rfl
theorem e_prio_Check : resF Go.Proofs.Tryd.prog fidP [] Go.Proofs.Tryd.f8 = some f_prio_Check.strip := by kernel_rfl
theorem e_prio_Less : resF Go.Proofs.Tryd.prog fidP [] Go.Proofs.Tryd.f10 = some f_prio_Less.strip := by kernel_rfl
theorem e_prio_Usual : resF Go.Proofs.Tryd.prog fidP [] Go.Proofs.Tryd.f16 = some f_prio_Usual.strip := by kernel_rfl
theorem e_prio_Parse : resF Go.Proofs.Tryd.prog fidP [] Go.Proofs.Tryd.f18 = some f_prio_Parse.strip := by kernel_rfl
theorem e_prio_Merge : resF Go.Proofs.Tryd.prog fidP [] Go.Proofs.Tryd.f19 = some f_prio_Merge.strip := by kernel_rfl
theorem e_prio_Items : resF Go.Proofs.Tryd.prog fidP [] Go.Proofs.Tryd.f20 = some f_prio_Items.strip := by kernel_rfl
theorem e_prio_Prio_compare : resF Go.Proofs.Tryd.prog fidP [] Go.Proofs.Tryd.f23 = some f_prio_Prio_compare.strip := by kernel_rfl
theorem e_prio_Merge_1 : resF Go.Proofs.Tryd.prog fidP [] Go.Proofs.Tryd.f26 = some f_prio_Merge_1.strip := by kernel_rfl
theorem e_prio_number : resF Go.Proofs.Tryd.prog fidP [] Go.Proofs.Tryd.f27 = some f_prio_number.strip := by kernel_rfl
theorem e_prio_item : resF Go.Proofs.Tryd.prog fidP [] Go.Proofs.Tryd.f30 = some f_prio_item.strip := by kernel_rfl
theorem e_strings_CutPrefix : resF Go.Proofs.Tryd.prog fidP [] Go.Proofs.Tryd.f36 = some f_strings_CutPrefix.strip := by kernel_rfl
theorem e_prio_class : resF Go.Proofs.Tryd.prog fidP [] Go.Proofs.Tryd.f37 = some f_prio_class.strip := by kernel_rfl
theorem e_prio_word : resF Go.Proofs.Tryd.prog fidP [] Go.Proofs.Tryd.f47 = some f_prio_word.strip := by kernel_rfl
theorem e_prio_bare : resF Go.Proofs.Tryd.prog fidP [] Go.Proofs.Tryd.f48 = some f_prio_bare.strip := by kernel_rfl
theorem e_internal_stringslite_CutPrefix : resF Go.Proofs.Tryd.prog fidP [] Go.Proofs.Tryd.f54 = some f_internal_stringslite_CutPrefix.strip := by kernel_rfl
theorem e_internal_stringslite_HasPrefix : resF Go.Proofs.Tryd.prog fidP [] Go.Proofs.Tryd.f71 = some f_internal_stringslite_HasPrefix.strip := by kernel_rfl
theorem e_footmanlaw38_PrioBack : resF Go.Proofs.Tryd.prog fidP [] Go.Proofs.Tryd.f4 = some f_footmanlaw38_PrioBack.strip := by kernel_rfl
theorem e_footmanlaw38_awake : resF Go.Proofs.Tryd.prog fidP [] Go.Proofs.Tryd.f5 = some f_footmanlaw38_awake.strip := by kernel_rfl
theorem e_footmanref15_SameInts : resF Go.Proofs.Tryd.prog fidP [] Go.Proofs.Tryd.f12 = some f_footmanref15_SameInts.strip := by kernel_rfl
theorem e_prio_Sort : resF Go.Proofs.Tryd.prog fidP [] Go.Proofs.Tryd.f13 = some f_prio_Sort.strip := by kernel_rfl
theorem e_slices_SortStableFunc_int_int : resF Go.Proofs.Tryd.prog fidP [] Go.Proofs.Tryd.f24 = some f_slices_SortStableFunc_int_int.strip := by kernel_rfl
theorem e_prio_Sort_1 : resF Go.Proofs.Tryd.prog fidP [] Go.Proofs.Tryd.f25 = some f_prio_Sort_1.strip := by kernel_rfl
theorem e_slices_stableCmpFunc_int : resF Go.Proofs.Tryd.prog fidP [] Go.Proofs.Tryd.f35 = some f_slices_stableCmpFunc_int.strip := by kernel_rfl
theorem e_slices_insertionSortCmpFunc_int : resF Go.Proofs.Tryd.prog fidP [] Go.Proofs.Tryd.f52 = some f_slices_insertionSortCmpFunc_int.strip := by kernel_rfl
theorem e_slices_symMergeCmpFunc_int : resF Go.Proofs.Tryd.prog fidP [] Go.Proofs.Tryd.f53 = some f_slices_symMergeCmpFunc_int.strip := by kernel_rfl
theorem e_slices_rotateCmpFunc_int : resF Go.Proofs.Tryd.prog fidP [] Go.Proofs.Tryd.f70 = some f_slices_rotateCmpFunc_int.strip := by kernel_rfl
theorem e_slices_swapRangeCmpFunc_int : resF Go.Proofs.Tryd.prog fidP [] Go.Proofs.Tryd.f84 = some f_slices_swapRangeCmpFunc_int.strip := by kernel_rfl

end Go.Cs
