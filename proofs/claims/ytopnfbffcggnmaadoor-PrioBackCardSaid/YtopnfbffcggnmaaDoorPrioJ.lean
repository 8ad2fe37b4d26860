/- prio: what is printed is parsed as it was: the plain law. -/
import Derived.Test.YtopnfbffcggnmaaDoorPrioI
import Derived.Test.YtopnfbffcggnmaaDoorPrioS
namespace Go.Cs

theorem mem_dropWhile_of {α : Type} {p : α → Bool} {c : α} : ∀ {l : List α}, c ∈ l → p c = false → c ∈ l.dropWhile p
  | x :: l, h, hp => by
    rw [List.dropWhile_cons]
    split
    · rename_i hx
      rcases List.mem_cons.1 h with rfl | h
      · rw [hp] at hx; cases hx
      · exact mem_dropWhile_of h hp
    · exact h

theorem trimS_ne {s p : List UInt8} {c : UInt8} (h : c ∈ s) (hp : p.contains c = false) : Lib.trimS s p ≠ [] := by
  have : c ∈ Lib.trimS s p := by
    unfold Lib.trimS Lib.trimLeftS Lib.trimRightS
    exact mem_dropWhile_of (List.mem_reverse.2 (mem_dropWhile_of (List.mem_reverse.2 h) hp)) hp
  intro e
  rw [e] at this
  cases this

theorem trimS_x (m : List UInt8) : ∃ r, Lib.trimS (120 :: m) [32, 9] = 120 :: r := by
  have hx : ([32, 9] : List UInt8).contains 120 = false := by decide
  unfold Lib.trimS Lib.trimLeftS Lib.trimRightS
  rw [List.reverse_cons, List.dropWhile_append]
  split
  · refine ⟨[], ?_⟩
    simp [List.dropWhile_cons]
  · refine ⟨((List.dropWhile (([32, 9] : List UInt8).contains ·) m.reverse)).reverse, ?_⟩
    rw [List.reverse_append, List.reverse_singleton, List.singleton_append, List.dropWhile_cons, hx]
    simp

theorem index_61 (r : List UInt8) : Lib.index (120 :: r) [61] = if Lib.index r [61] == -1 then -1 else Lib.index r [61] + 1 := by
  simp [Lib.index, List.isPrefixOf]

theorem cut_x (r : List UInt8) : ∃ q, (Lib.cut (120 :: r) [61]).1 = 120 :: q := by
  have hge := Lib.index_ge r [61]
  unfold Lib.cut
  split
  · rename_i h
    rw [index_61] at h ⊢
    split at h
    · omega
    · rename_i hn
      rw [if_neg hn]
      have hne : Lib.index r [61] ≠ -1 := fun e => hn (beq_iff_eq.2 e)
      have e : (Lib.index r [61] + 1).toNat = (Lib.index r [61]).toNat + 1 := by omega
      rw [e]
      exact ⟨_, rfl⟩
  · exact ⟨_, rfl⟩

theorem keyM_x (m : List UInt8) : ∃ q, keyM (120 :: m) = 120 :: q := by
  obtain ⟨r, hr⟩ := trimS_x m
  unfold keyM
  rw [hr]
  exact cut_x r

theorem splitP_ne : ∀ a : List UInt8, splitP a ≠ []
  | [] => by simp [splitP]
  | c :: a => by
    simp only [splitP]
    split
    · simp
    · split <;> simp

theorem splitP_append : ∀ a b : List UInt8, splitP (a ++ 44 :: b) = splitP a ++ splitP b
  | [], b => by simp [splitP]
  | c :: a, b => by
    have ih := splitP_append a b
    simp only [List.cons_append, splitP]
    split
    · rw [ih]; rfl
    · rw [ih]
      cases h : splitP a with
      | nil => exact absurd h (splitP_ne a)
      | cons p ps => rfl

theorem splitP_one : ∀ a : List UInt8, (splitP a).length = 1 → splitP a = [a]
  | [], _ => rfl
  | c :: a, h => by
    simp only [splitP] at h ⊢
    split at h
    · have : (splitP a).length = 0 := by simpa using h
      exact absurd (List.length_eq_zero_iff.1 this) (splitP_ne a)
    · rename_i hc
      rw [if_neg hc]
      cases h2 : splitP a with
      | nil => exact absurd h2 (splitP_ne a)
      | cons p ps =>
        rw [h2] at h
        have : ps = [] := by simpa using h
        subst this
        have := splitP_one a (by rw [h2]; rfl)
        rw [h2] at this
        cases this
        rfl

theorem itemsL_append : ∀ {a b : List (List UInt8)} {x y : List CV}, itemsL a = some x → itemsL b = some y → itemsL (a ++ b) = some (x ++ y)
  | [], b, x, y, h1, h2 => by cases h1; exact h2
  | p :: a, b, x, y, h1, h2 => by
    simp only [itemsL] at h1
    split at h1
    · rename_i hp
      obtain ⟨r, hr, rfl⟩ := Option.map_eq_some_iff.1 h1
      simp only [List.cons_append, itemsL, if_pos hp, itemsL_append hr h2, Option.map_some]
    · cases h1

theorem lastL_append {key : List UInt8} : ∀ {a : List (List UInt8)} {x y : List CV} {acc : List UInt8}, itemsL a = some x → lastL key (x ++ y) acc = lastL key y (lastL key x acc)
  | [], x, y, acc, h => by cases h; rfl
  | p :: a, x, y, acc, h => by
    simp only [itemsL] at h
    split at h
    · obtain ⟨r, hr, rfl⟩ := Option.map_eq_some_iff.1 h
      simp only [List.cons_append, lastL]
      exact lastL_append hr
    · cases h

theorem itemsM_of {s : List UInt8} {cs : List CV} (h1 : s.length ≤ 200) (h2 : Lib.trimS s [32, 9] ≠ []) (h3 : itemsL (splitP s) = some cs) (h4 : (splitP s).length ≤ 16) : itemsM s = .tup [.vec cs (splitP s).length false, .int .i64 0] := by
  rw [itemsM, if_neg (by omega), if_neg h2, h3]
  simp only
  rw [if_neg (by omega), if_neg (splitP_ne s)]

/-- What one member alone tells of itself. -/
theorem itemsM_one {s : List UInt8} {cs : List CV} (h : itemsM s = .tup [.vec cs 1 false, .int .i64 0]) : splitP s = [s] ∧ itemOk s = true ∧ cs = [.str (keyM s), .str (valM s)] := by
  unfold itemsM at h
  split at h
  · simp at h
  · split at h
    · simp at h
    · split at h
      · simp at h
      · rename_i cs' hcs
        split at h
        · simp at h
        · split at h
          · simp at h
          · simp only [CV.tup.injEq, List.cons.injEq, CV.vec.injEq, and_true] at h
            obtain ⟨rfl, h1⟩ := h
            have hs := splitP_one s h1
            rw [hs] at hcs
            simp only [itemsL] at hcs
            split at hcs
            · rename_i hok
              simp only [Option.map_some, Option.some.injEq] at hcs
              exact ⟨hs, hok, hcs.symm⟩
            · cases hcs

/-- What is printed. -/
def prS (u : Int) (st : Bool) : List UInt8 := Lib.join (printL u st) [44, 32]
def prOk (u : Int) (st : Bool) : Bool :=
  let s := prS u st
  let lu := lastL [117] (itemsC s) []
  let li := lastL [105] (itemsC s) []
  decide (s.length ≤ 6) && itemsE s == 0 && checkM u == 0 && (mergeU 3 lu == u) && (mergeS false li == st) &&
  (if u = 3 then numOk lu == false else (numOk lu && numV lu == u)) && (if st then li == [63, 49] else li == []) &&
  (if s == [] then u == 3 && !st else (Lib.trimS s [32, 9] != []) && (itemsL (splitP s)).isSome && decide ((splitP s).length ≤ 2))

theorem prOk_all : ((List.range 8).all fun u => prOk (u : Nat) true && prOk (u : Nat) false) = true := by kernel_rfl

structure Pr (u : Int) (st : Bool) : Prop where
  len : (prS u st).length ≤ 6
  parse : mergeM 3 false (prS u st) = .tup [.agg [.int .i64 u, .bool st], .int .i64 0]
  merge : ∀ v sv, checkM v = 0 → mergeM v sv (prS u st) = .tup [.agg [.int .i64 (if u = 3 then v else u), .bool (sv || st)], .int .i64 0]
  alone : prS u st = [] → ∀ more : List UInt8, more.length ≤ 100 → ∀ cs, itemsM (120 :: more) = .tup [.vec cs 1 false, .int .i64 0] → mergeM 3 false (120 :: more) = .tup [.agg [.int .i64 u, .bool st], .int .i64 0]
  back : prS u st ≠ [] → ∀ more : List UInt8, more.length ≤ 100 → ∀ cs, itemsM (120 :: more) = .tup [.vec cs 1 false, .int .i64 0] → mergeM 3 false (prS u st ++ 44 :: 120 :: more) = .tup [.agg [.int .i64 u, .bool st], .int .i64 0]

theorem lastL_x {k : UInt8} (hk : k ≠ 120) (m v acc : List UInt8) : lastL [k] [.str (keyM (120 :: m)), .str v] acc = acc := by
  obtain ⟨q, hq⟩ := keyM_x m
  have : ¬ keyM (120 :: m) = [k] := by
    rw [hq]
    intro e
    injection e with e1
    exact hk e1.symm
  simp [lastL, this]

theorem pr_of {u : Int} (hu : checkM u = 0) (st : Bool) : Pr u st := by
  have hr : 0 ≤ u ∧ u ≤ 7 := by
    unfold checkM at hu
    split at hu
    · cases hu
    · omega
  have hok : prOk u st = true := by
    have := List.all_eq_true.1 prOk_all u.toNat (List.mem_range.2 (by omega))
    have e : ((u.toNat : Nat) : Int) = u := by omega
    rw [e] at this
    simp only [Bool.and_eq_true] at this
    cases st
    · exact this.2
    · exact this.1
  simp only [prOk, Bool.and_eq_true, decide_eq_true_eq, beq_iff_eq] at hok
  obtain ⟨⟨⟨⟨⟨⟨⟨h1, h2⟩, _⟩, h4⟩, h5⟩, h6⟩, h7⟩, h8⟩ := hok
  have hc3 : checkM 3 = 0 := by decide
  refine ⟨h1, ?_, fun v sv hv => ?_, fun he more hm cs hcs => ?_, fun hne more hm cs hcs => ?_⟩
  · rw [mergeM, if_neg (by simp [hc3]), if_neg (by simp [h2]), h4, h5]
  · rw [mergeM, if_neg (by simp [hv]), if_neg (by simp [h2])]
    have e1 : mergeU v (lastL [117] (itemsC (prS u st)) []) = if u = 3 then v else u := by
      unfold mergeU
      split at h6
      · rename_i h3
        rw [if_pos h3, if_neg (by intro hh; rw [beq_iff_eq.1 h6] at hh; exact Bool.noConfusion hh.1)]
      · rename_i h3
        simp only [Bool.and_eq_true, beq_iff_eq] at h6
        rw [if_neg h3, if_pos ⟨h6.1, by rw [h6.2]; exact hr⟩, h6.2]
    have e2 : mergeS sv (lastL [105] (itemsC (prS u st)) []) = (sv || st) := by
      unfold mergeS
      split at h7
      · rename_i h3
        rw [if_pos (beq_iff_eq.1 h7), h3]; simp
      · rename_i h3
        rw [beq_iff_eq.1 h7]
        have : st = false := by simpa using h3
        simp [this]
    rw [e1, e2]
  · obtain ⟨hs, hio, rfl⟩ := itemsM_one hcs
    rw [if_pos (by simp [he])] at h8
    simp only [Bool.and_eq_true, beq_iff_eq, Bool.not_eq_true'] at h8
    obtain ⟨rfl, rfl⟩ := h8
    have hC : itemsC (120 :: more) = [.str (keyM (120 :: more)), .str (valM (120 :: more))] := by simp [itemsC, hcs]
    have hE : itemsE (120 :: more) = 0 := by simp [itemsE, hcs]
    rw [mergeM, if_neg (by simp [hc3]), if_neg (by simp [hE]), hC, lastL_x (by decide), lastL_x (by decide)]
    have : numOk [] = false := by kernel_rfl
    simp [mergeU, mergeS, this]
  · obtain ⟨hs, hio, rfl⟩ := itemsM_one hcs
    rw [if_neg (by simpa using hne)] at h8
    simp only [Bool.and_eq_true, decide_eq_true_eq] at h8
    obtain ⟨⟨h9, h10⟩, h11⟩ := h8
    obtain ⟨xs, hxs⟩ := Option.isSome_iff_exists.1 h10
    have hC0 : itemsC (prS u st) = xs := by
      rw [itemsC, itemsM_of (by omega) (by simpa using h9) hxs (by omega)]
    have hone : itemsL [120 :: more] = some [.str (keyM (120 :: more)), .str (valM (120 :: more))] := by simp [itemsL, hio]
    have hsp : splitP (prS u st ++ 44 :: 120 :: more) = splitP (prS u st) ++ [120 :: more] := by rw [splitP_append, hs]
    have hI := itemsM_of (s := prS u st ++ 44 :: 120 :: more) (cs := xs ++ [.str (keyM (120 :: more)), .str (valM (120 :: more))]) (by simp; omega)
      (trimS_ne (c := 120) (by simp) (by decide)) (by rw [hsp]; exact itemsL_append hxs hone) (by rw [hsp]; simp; omega)
    have hC : itemsC (prS u st ++ 44 :: 120 :: more) = xs ++ [.str (keyM (120 :: more)), .str (valM (120 :: more))] := by rw [itemsC, hI]
    have hE : itemsE (prS u st ++ 44 :: 120 :: more) = 0 := by rw [itemsE, hI]
    rw [mergeM, if_neg (by simp [hc3]), if_neg (by simp [hE]), hC, lastL_append hxs, lastL_append hxs, lastL_x (by decide), lastL_x (by decide), ← hC0, h4, h5]

end Go.Cs
