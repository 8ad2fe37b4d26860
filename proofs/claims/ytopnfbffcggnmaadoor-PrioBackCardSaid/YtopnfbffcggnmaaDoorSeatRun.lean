/- The seat of prio: the contracts of its functions, one upon another. -/
import Derived.Test.YtopnfbffcggnmaaDoorSeatLib
import Derived.Test.YtopnfbffcggnmaaDoorPrioK
namespace Go.Cs
open Go.Proofs (Tryd.prog)

theorem follows : Tryd.prog.follows .mixedOrders = true := by kernel_rfl

def t0 : Tab := []
theorem ks0 : KSound Tryd.prog fidP GP t0.K := Tab.nil_sound

def t1 : Tab := (65, .p idxF) :: t0
theorem ks1 : KSound Tryd.prog fidP GP (Tab.K t1) := Tab.cons_sound ks0 fun f hf => by
  obtain rfl := lk_only (n := 63) (by kernel_rfl) f hf
  exact idx_sound

def t2 : Tab := (26, .p itoaF) :: t1
theorem ks2 : KSound Tryd.prog fidP GP (Tab.K t2) := Tab.cons_sound ks1 fun f hf => by
  obtain rfl := lk_only (n := 21) (by kernel_rfl) f hf
  exact itoa_sound

def t3 : Tab := (33, .p trimF) :: t2
theorem ks3 : KSound Tryd.prog fidP GP (Tab.K t3) := Tab.cons_sound ks2 fun f hf => by
  obtain rfl := lk_only (n := 28) (by kernel_rfl) f hf
  exact trim_sound

def t4 : Tab := (48, .p cut3F) :: t3
theorem ks4 : KSound Tryd.prog fidP GP (Tab.K t4) := Tab.cons_sound ks3 fun f hf => by
  obtain rfl := lk_only (n := 46) (by kernel_rfl) f hf
  exact cut_sound

def t5 : Tab := (34, .p splitF) :: t4
theorem ks5 : KSound Tryd.prog fidP GP (Tab.K t5) := Tab.cons_sound ks4 fun f hf => by
  obtain rfl := lk_only (n := 29) (by kernel_rfl) f hf
  exact split_sound

def t6 : Tab := (27, .e joinF) :: t5
theorem ks6 : KSound Tryd.prog fidP GP (Tab.K t6) := Tab.cons_sound ks5 fun f hf => by
  obtain rfl := lk_only (n := 22) (by kernel_rfl) f hf
  exact join_sound

def t7 : Tab := (67, .p hasF) :: t6
theorem ks7 : KSound Tryd.prog fidP GP (Tab.K t7) := Tab.cons_sound ks6 fun f hf => by
  obtain rfl := lk_only (n := 71) (by kernel_rfl) f hf
  exact fn_p follows ks6 Go.Proofs.Tryd.func71 (by decide) e_internal_stringslite_HasPrefix (by kernel_rfl) (has_runs)

def t8 : Tab := (56, .p cutF) :: t7
theorem ks8 : KSound Tryd.prog fidP GP (Tab.K t8) := Tab.cons_sound ks7 fun f hf => by
  obtain rfl := lk_only (n := 54) (by kernel_rfl) f hf
  exact fn_p follows ks7 Go.Proofs.Tryd.func54 (by decide) e_internal_stringslite_CutPrefix (by kernel_rfl) (cutS_runs rfl)

def t9 : Tab := (38, .p cutF) :: t8
theorem ks9 : KSound Tryd.prog fidP GP (Tab.K t9) := Tab.cons_sound ks8 fun f hf => by
  obtain rfl := lk_only (n := 36) (by kernel_rfl) f hf
  exact fn_p follows ks8 Go.Proofs.Tryd.func36 (by decide) e_strings_CutPrefix (by kernel_rfl) (cut_runs rfl)

def t10 : Tab := (39, .p clsF) :: t9
theorem ks10 : KSound Tryd.prog fidP GP (Tab.K t10) := Tab.cons_sound ks9 fun f hf => by
  obtain rfl := lk_only (n := 37) (by kernel_rfl) f hf
  exact fn_p follows ks9 Go.Proofs.Tryd.func37 (by decide) e_prio_class (by kernel_rfl) (class_runs)

def t11 : Tab := (49, .p wordF) :: t10
theorem ks11 : KSound Tryd.prog fidP GP (Tab.K t11) := Tab.cons_sound ks10 fun f hf => by
  obtain rfl := lk_only (n := 47) (by kernel_rfl) f hf
  exact fn_p follows ks10 Go.Proofs.Tryd.func47 (by decide) e_prio_word (by kernel_rfl) (word_runs rfl rfl)

def t12 : Tab := (32, .p numF) :: t11
theorem ks12 : KSound Tryd.prog fidP GP (Tab.K t12) := Tab.cons_sound ks11 fun f hf => by
  obtain rfl := lk_only (n := 27) (by kernel_rfl) f hf
  exact fn_p follows ks11 Go.Proofs.Tryd.func27 (by decide) e_prio_number (by kernel_rfl) (number_runs rfl rfl)

def t13 : Tab := (50, .p bareF) :: t12
theorem ks13 : KSound Tryd.prog fidP GP (Tab.K t13) := Tab.cons_sound ks12 fun f hf => by
  obtain rfl := lk_only (n := 48) (by kernel_rfl) f hf
  exact fn_p follows ks12 Go.Proofs.Tryd.func48 (by decide) e_prio_bare (by kernel_rfl) (bare_runs rfl rfl)

def t14 : Tab := (35, .p itemF) :: t13
theorem ks14 : KSound Tryd.prog fidP GP (Tab.K t14) := Tab.cons_sound ks13 fun f hf => by
  obtain rfl := lk_only (n := 30) (by kernel_rfl) f hf
  exact fn_p follows ks13 Go.Proofs.Tryd.func30 (by decide) e_prio_item (by kernel_rfl) (item_runs rfl rfl rfl rfl)

def t15 : Tab := (24, .p itemsF) :: t14
theorem ks15 : KSound Tryd.prog fidP GP (Tab.K t15) := Tab.cons_sound ks14 fun f hf => by
  obtain rfl := lk_only (n := 20) (by kernel_rfl) f hf
  exact fn_p follows ks14 Go.Proofs.Tryd.func20 (by decide) e_prio_Items (by kernel_rfl) (items_runs rfl rfl rfl)

def t16 : Tab := (11, .p checkF) :: t15
theorem ks16 : KSound Tryd.prog fidP GP (Tab.K t16) := Tab.cons_sound ks15 fun f hf => by
  obtain rfl := lk_only (n := 8) (by kernel_rfl) f hf
  exact fn_p follows ks15 Go.Proofs.Tryd.func8 (by decide) e_prio_Check (by kernel_rfl) (check_runs)

def t17 : Tab := (19, .p usualF) :: t16
theorem ks17 : KSound Tryd.prog fidP GP (Tab.K t17) := Tab.cons_sound ks16 fun f hf => by
  obtain rfl := lk_only (n := 16) (by kernel_rfl) f hf
  exact fn_p follows ks16 Go.Proofs.Tryd.func16 (by decide) e_prio_Usual (by kernel_rfl) (usual_runs)

def t18 : Tab := (31, .e lastF) :: t17
theorem ks18 : KSound Tryd.prog fidP GP (Tab.K t18) := Tab.cons_sound ks17 fun f hf => by
  obtain rfl := lk_only (n := 26) (by kernel_rfl) f hf
  exact fn_e follows ks17 Go.Proofs.Tryd.func26 (by decide) e_prio_Merge_1 (by kernel_rfl) (last_runs)

def t19 : Tab := (23, .p mergeF) :: t18
theorem ks19 : KSound Tryd.prog fidP GP (Tab.K t19) := Tab.cons_sound ks18 fun f hf => by
  obtain rfl := lk_only (n := 19) (by kernel_rfl) f hf
  exact fn_p follows ks18 Go.Proofs.Tryd.func19 (by decide) e_prio_Merge (by kernel_rfl) (merge_runs rfl rfl rfl rfl)

def t20 : Tab := (22, .p parseF) :: t19
theorem ks20 : KSound Tryd.prog fidP GP (Tab.K t20) := Tab.cons_sound ks19 fun f hf => by
  obtain rfl := lk_only (n := 18) (by kernel_rfl) f hf
  exact fn_p follows ks19 Go.Proofs.Tryd.func18 (by decide) e_prio_Parse (by kernel_rfl) (parse_runs rfl rfl)

def t21 : Tab := (9, .p printF) :: t20
theorem ks21 : KSound Tryd.prog fidP GP (Tab.K t21) := Tab.cons_sound ks20 fun f hf => by
  obtain rfl := lk_only (n := 6) (by kernel_rfl) f hf
  exact fn_p follows ks20 Go.Proofs.Tryd.func6 (by decide) e_prio_Print (by kernel_rfl) (print_runs rfl rfl rfl)

end Go.Cs
