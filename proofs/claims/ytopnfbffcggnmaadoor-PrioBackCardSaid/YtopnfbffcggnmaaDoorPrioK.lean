/- prio: PrioBack's own run. -/
import Derived.Test.YtopnfbffcggnmaaDoorPrioJ
import Derived.Test.YtopnfbffcggnmaaDoorPrioFnsB
import Derived.Test.YtopnfbffcggnmaaDoorCsTab
namespace Go.Cs
variable {K : Nat → Ct} {Q : RE → Env → CW → Prop}

def awakeF : List CV → Option CV
  | [] => some (.bool true)
  | _ => none

theorem printM_ok {u : Int} (h : checkM u = 0) (st : Bool) : printM u st = .tup [.str (prS u st), .int .i64 0] := by rw [printM, if_neg (by simp [h])]; rfl
theorem printM_bad {u : Int} (h : checkM u ≠ 0) (st : Bool) : printM u st = .tup [.str [], .int .i64 (checkM u)] := by rw [printM, if_pos h]

theorem not_beq {α : Type} [BEq α] (a b : α) : (a != b) = !(a == b) := rfl

set_option maxHeartbeats 4000000 in
theorem back4 (h8 : K 8 = pureC awakeF) (h22 : K 22 = pureC parseF) (h24 : K 24 = pureC itemsF) {u : Int} {st : Bool} {more : List UInt8} (hu : checkM u = 0) (hml : more.length ≤ 100) (fin : ∀ cw', Q .ret [(6, .bool true)] cw') {ρ : Env} {cw : CW} {p : Nat}
    (r2 : Env.get ρ 2 = some (.str more)) (r7 : Env.get ρ 7 = some (.ptr p 0)) (r9 : Env.get ρ 9 = some (.str (prS u st))) (hp : p < cw.next) (hg : cw.get p = some (.cells [.int .i64 u, .bool st])) :
    wpk K Q f_footmanlaw38_PrioBack_p4 [] ρ cw := by
  obtain ⟨p1, p2, p3, p4, p5⟩ := pr_of hu st
  have hI : ∃ lv, itemsM (120 :: more) = .tup [lv, .int .i64 (itemsE (120 :: more))] ∧ (lv = .nils ∨ ∃ cs n, lv = .vec cs n false ∧ (itemsE (120 :: more) = 0 → n = 1 → itemsM (120 :: more) = .tup [.vec cs 1 false, .int .i64 0])) := by
    rcases itemsM_shape (120 :: more) with ⟨h, _⟩ | ⟨n, h, _⟩
    · exact ⟨_, h, .inl rfl⟩
    · exact ⟨_, h, .inr ⟨_, n, rfl, fun h0 h1 => by rw [h, h0, h1]⟩⟩
  obtain ⟨lv, hi, hlv⟩ := hI
  have hp1 : (p = cw.next) = False := by simp; omega
  have hsl : (prS u st).length ≤ 100000 := by omega
  have hs1 : (prS u st).length + 2 ≤ 9223372036854775807 := by omega
  have hs2 : (prS u st ++ [44, 120]).length + more.length ≤ 9223372036854775807 := by simp; omega
  have hxl : more.length + 1 ≤ 100000 := by omega
  have hx1 : 1 + more.length ≤ 9223372036854775807 := by omega
  have hE : (prS u st ++ [44, 120] ++ more) = prS u st ++ 44 :: 120 :: more := by simp
  have hel : (prS u st ++ 44 :: 120 :: more).length ≤ 100000 := by simp; omega
  have fin2 : ∀ (T : List UInt8) (ρ' : Env), Env.get ρ' 2 = some (.str more) → Env.get ρ' 7 = some (.ptr p 0) → Env.get ρ' 16 = some (.str T) → T.length ≤ 100000 → (∀ cs, itemsM (120 :: more) = .tup [.vec cs 1 false, .int .i64 0] → mergeM 3 false T = .tup [.agg [.int .i64 u, .bool st], .int .i64 0]) →
      wpk K Q f_footmanlaw38_PrioBack_p4b [] ρ' cw := by
    intro T ρ' r2 r7 r16 hT hM
    obtain ⟨a, b, e, hm⟩ := mergeM_shape 3 false T
    simp -implicitDefEqProofs only [f_footmanlaw38_PrioBack_p4b, go_sem, r2, r7, r16, hx1, wpa_pure h24, itemsF, hxl, hi, f_footmanlaw38_PrioBack_p5, wpa_pure h22, parseF, hT, hm, hp1]
    rcases hlv with rfl | ⟨cs, n, rfl, hlv⟩
    · cases he : (itemsE (120 :: more) == 0) <;> simp -implicitDefEqProofs only [not_beq, he, go_sem, wpa_pure h8, awakeF]
      · exact fin _
      · have h01 : ((0 : Int) == 1) = false := by decide
        simp -implicitDefEqProofs only [h01, go_sem, wpa_pure h8, awakeF]
        exact fin _
    · cases he : (itemsE (120 :: more) == 0) <;> simp -implicitDefEqProofs only [not_beq, he, go_sem, wpa_pure h8, awakeF]
      · exact fin _
      · cases h1 : ((n : Int) == 1) <;> simp -implicitDefEqProofs only [go_sem, wpa_pure h8, awakeF]
        · exact fin _
        · have h1' : n = 1 := by have := beq_iff_eq.1 h1; omega
          subst h1'
          have hc := hlv (beq_iff_eq.1 he) rfl
          have hm2 := hM _ hc
          rw [hm] at hm2
          simp -implicitDefEqProofs only [CV.tup.injEq, List.cons.injEq, CV.agg.injEq, CV.int.injEq, CV.bool.injEq, true_and, and_true] at hm2
          obtain ⟨⟨rfl, rfl⟩, rfl⟩ := hm2
          simp -implicitDefEqProofs only [go_sem, hp1, hg, wpa_pure h8, awakeF]
          exact fin _
  simp -implicitDefEqProofs only [f_footmanlaw38_PrioBack_p4, go_sem, r2, r7, r9, hx1]
  cases hs : (prS u st == []) <;> simp -implicitDefEqProofs only [not_beq, hs, go_sem, hs1, hs2, hE]
  · exact fin2 _ _ rfl rfl rfl hel (p5 (by simpa using hs) more hml)
  · exact fin2 _ _ rfl rfl rfl (by simp; omega) (p4 (by simpa using hs) more hml)

set_option maxHeartbeats 4000000 in
theorem back3 {u : Int} {st : Bool} {more : List UInt8} {ρ : Env} {cw : CW} {p7 p11 p13 p15 : Nat} {s : List UInt8} {a : Int} {b : Bool}
    (r2 : Env.get ρ 2 = some (.str more)) (r7 : Env.get ρ 7 = some (.ptr p7 0)) (r9 : Env.get ρ 9 = some (.str s)) (r10 : Env.get ρ 10 = some (.int .i64 0)) (r11 : Env.get ρ 11 = some (.ptr p11 0)) (r12 : Env.get ρ 12 = some (.int .i64 0))
    (r13 : Env.get ρ 13 = some (.ptr p13 0)) (r14 : Env.get ρ 14 = some (.int .i64 0)) (r15 : Env.get ρ 15 = some (.ptr p15 0)) (g7 : cw.get p7 = some (.cells [.int .i64 u, .bool st])) (g11 : cw.get p11 = some (.cells [.int .i64 u, .bool st]))
    (g13 : cw.get p13 = some (.cells [.int .i64 a, .bool b])) (g15 : cw.get p15 = some (.cells [.int .i64 a, .bool b])) (hn : wpk K Q f_footmanlaw38_PrioBack_p4 [] [(2, .str more), (7, .ptr p7 0), (9, .str s), (94, .bool false)] cw) :
    wpk K Q f_footmanlaw38_PrioBack_p3 [] ρ cw := by
  simp -implicitDefEqProofs only [f_footmanlaw38_PrioBack_p3, go_sem, r2, r7, r9, r10, r11, r12, r13, r14, r15, g7, g11, g13, g15, not_beq]
  exact hn

set_option maxHeartbeats 4000000 in
/-- What a merging ought to make. -/
theorem back2 {u v : Int} {st sv : Bool} {ρ : Env} {cw : CW} {p7 p8 : Nat} {r2v r9v r10v r11v r12v r13v r14v : CV}
    (r2 : Env.get ρ 2 = some r2v) (r7 : Env.get ρ 7 = some (.ptr p7 0)) (r8 : Env.get ρ 8 = some (.ptr p8 0)) (r9 : Env.get ρ 9 = some r9v) (r10 : Env.get ρ 10 = some r10v) (r11 : Env.get ρ 11 = some r11v) (r12 : Env.get ρ 12 = some r12v)
    (r13 : Env.get ρ 13 = some r13v) (r14 : Env.get ρ 14 = some r14v) (g7 : cw.get p7 = some (.cells [.int .i64 u, .bool st])) (g8 : cw.get p8 = some (.cells [.int .i64 v, .bool sv])) (h7 : p7 < cw.next)
    (hn : ∀ cw', cw'.next = cw.next + 1 → (∀ b, b < cw.next → cw'.get b = cw.get b) → cw'.get cw.next = some (.cells [.int .i64 (if u = 3 then v else u), .bool (sv || st)]) →
      wpk K Q f_footmanlaw38_PrioBack_p3 [] [(2, r2v), (7, .ptr p7 0), (9, r9v), (10, r10v), (11, r11v), (12, r12v), (13, r13v), (14, r14v), (15, .ptr cw.next 0)] cw') : wpk K Q f_footmanlaw38_PrioBack_p2 [] ρ cw := by
  have h71 : (p7 = cw.next) = False := by simp; omega
  simp -implicitDefEqProofs only [f_footmanlaw38_PrioBack_p2, go_sem, r2, r7, r8, r9, r10, r11, r12, r13, r14, g7, g8, h71]
  cases hu3 : (u != 3)
  all_goals
    cases sv <;> cases st <;> simp -implicitDefEqProofs only [go_sem, hu3, h71, g7]
    all_goals
      refine hn _ ?_ (fun b hb => ?_) ?_
      · simp -implicitDefEqProofs only [go_sem]
      · have hbn : (b = cw.next) = False := by simp; omega
        simp -implicitDefEqProofs only [go_sem, hbn]
      · first
        | (have h3 : u = 3 := by simpa using hu3
           simp -implicitDefEqProofs only [go_sem, h3, Bool.or_false, Bool.or_true])
        | (have h3 : ¬ u = 3 := by simpa using hu3
           simp -implicitDefEqProofs only [go_sem, h3, Bool.or_false, Bool.or_true])

set_option maxHeartbeats 4000000 in
theorem back1 (h8 : K 8 = pureC awakeF) (h9 : K 9 = pureC printF) (h11 : K 11 = pureC checkF) (h22 : K 22 = pureC parseF) (h23 : K 23 = pureC mergeF) (h24 : K 24 = pureC itemsF) {u v : Int} {st sv : Bool} {more : List UInt8} (fin' : ∀ cw', Q .ret [(6, .bool true)] cw')
    {cw : CW} {p7 p8 : Nat} (l7 : p7 < cw.next) (l8 : p8 < cw.next) (g7 : cw.get p7 = some (.cells [.int .i64 u, .bool st])) (g8 : cw.get p8 = some (.cells [.int .i64 v, .bool sv])) :
    wpk K Q f_footmanlaw38_PrioBack_p1 [] [(2, .str more), (7, .ptr p7 0), (8, .ptr p8 0)] cw := by
  have h71 : (p7 = cw.next) = False := by simp; omega
  have h81 : (p8 = cw.next) = False := by simp; omega
  have h72 : (p7 = cw.next + 1) = False := by simp; omega
  have h82 : (p8 = cw.next + 1) = False := by simp; omega
  by_cases hu : checkM u = 0
  case neg =>
    have hub : (checkM u == 0) = false := by simpa using hu
    cases hl : decide ((more.length : Int) > 100)
    all_goals
      simp -implicitDefEqProofs only [f_footmanlaw38_PrioBack_p1, go_sem, g7, g8, wpa_pure h9, wpa_pure h11, wpa_pure h8, printF, printM_bad hu, checkF, awakeF, hl, not_beq, hub]
      exact fin' _
  have hub : (checkM u == 0) = true := by simp [hu]
  cases hv : (checkM v == 0)
  case false =>
    cases hl : decide ((more.length : Int) > 100)
    all_goals
      simp -implicitDefEqProofs only [f_footmanlaw38_PrioBack_p1, go_sem, g7, g8, wpa_pure h9, wpa_pure h11, wpa_pure h8, printF, printM_ok hu, checkF, awakeF, hl, not_beq, hub, hv]
      exact fin' _
  have hv0 : checkM v = 0 := by simpa using hv
  cases hl : decide ((more.length : Int) > 100)
  case true =>
    simp -implicitDefEqProofs only [f_footmanlaw38_PrioBack_p1, go_sem, g7, g8, wpa_pure h9, wpa_pure h11, wpa_pure h8, printF, printM_ok hu, checkF, awakeF, hl, not_beq, hub, hv]
    exact fin' _
  have hml : more.length ≤ 100 := by simp only [decide_eq_false_iff_not] at hl; omega
  obtain ⟨p1, p2, p3, p4, p5⟩ := pr_of hu st
  have hsl : (prS u st).length ≤ 100000 := by omega
  simp -implicitDefEqProofs only [f_footmanlaw38_PrioBack_p1, go_sem, g7, g8, h71, h81, h72, h82, wpa_pure h9, wpa_pure h11, wpa_pure h8, wpa_pure h22, wpa_pure h23, printF, printM_ok hu, checkF, parseF, mergeF, awakeF, hl, not_beq, hub, hv, hsl, p2, p3 v sv hv0]
  refine back2 (u := u) (v := v) (st := st) (sv := sv) rfl rfl rfl rfl rfl rfl rfl rfl rfl (by simp -implicitDefEqProofs only [go_sem, h71, h72, g7]) (by simp -implicitDefEqProofs only [go_sem, h81, h82, g8]) (by simp -implicitDefEqProofs only [go_sem]; omega) fun cw' hn hk h15 => ?_
  simp -implicitDefEqProofs only [go_sem] at hn hk h15
  refine back3 (u := u) (st := st) rfl rfl rfl rfl rfl rfl rfl rfl rfl ?_ ?_ ?_ h15 (back4 h8 h22 h24 hu hml fin' rfl rfl rfl ?_ ?_)
  · rw [hk _ (by omega)]; simp -implicitDefEqProofs only [go_sem, h71, h72, g7]
  · rw [hk _ (by omega)]; simp -implicitDefEqProofs only [go_sem]
  · rw [hk _ (by omega)]; simp -implicitDefEqProofs only [go_sem]
  · omega
  · rw [hk _ (by omega)]; simp -implicitDefEqProofs only [go_sem, h71, h72, g7]

set_option maxHeartbeats 4000000 in
theorem back_run (h8 : K 8 = pureC awakeF) (h9 : K 9 = pureC printF) (h11 : K 11 = pureC checkF) (h22 : K 22 = pureC parseF) (h23 : K 23 = pureC mergeF) (h24 : K 24 = pureC itemsF) (u v : Int) (st sv : Bool) (more : List UInt8) :
    wpF K f_footmanlaw38_PrioBack [.agg [.int .i64 u, .bool st], .agg [.int .i64 v, .bool sv], .str more] cw0 fun v _ => v = .bool true := by
  refine top_run rfl fun Q fin => ?_
  have fin' : ∀ cw', Q .ret [(6, .bool true)] cw' := fun cw' => fin _ _ rfl
  clear fin
  simp -implicitDefEqProofs only [f_footmanlaw38_PrioBack, go_sem]
  intro o ho
  simp only [List.mem_cons, List.not_mem_nil, or_false] at ho
  have hb := @back1 K Q h8 h9 h11 h22 h23 h24 u v st sv more fin'
  rcases ho with rfl | rfl | rfl | rfl | rfl | rfl | rfl | rfl | rfl | rfl | rfl | rfl | rfl | rfl | rfl | rfl | rfl | rfl | rfl | rfl | rfl | rfl | rfl | rfl | rfl | rfl | rfl | rfl | rfl | rfl
  all_goals
    simp -implicitDefEqProofs only [List.map, Option.getD_some, go_sem]
    refine hb ?_ ?_ ?_ ?_ <;> simp -implicitDefEqProofs only [go_sem]
    all_goals decide

end Go.Cs
