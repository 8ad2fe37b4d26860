/- prio: a value's members. -/
import Derived.Test.YtopnfbffcggnmaaDoorPrioC
namespace Go.Cs
variable {K : Nat → Ct}

/-- What stands between commas. -/
def splitP : List UInt8 → List (List UInt8)
  | [] => [[]]
  | c :: r => if c = 44 then [] :: splitP r else match splitP r with
    | [] => [[c]]
    | p :: ps => (c :: p) :: ps

theorem splitP_len : ∀ (s p : List UInt8), p ∈ splitP s → p.length ≤ s.length
  | [], p, h => by simp [splitP] at h; simp [h]
  | c :: r, p, h => by
    simp only [splitP] at h
    split at h
    · rcases List.mem_cons.1 h with rfl | h
      · simp
      · have := splitP_len r p h; simp; omega
    · split at h
      · simp at h; simp [h]
      · rename_i q qs hq
        rcases List.mem_cons.1 h with rfl | h
        · have := splitP_len r q (by rw [hq]; exact List.mem_cons_self ..)
          simp; omega
        · have := splitP_len r p (by rw [hq]; exact List.mem_cons_of_mem _ h)
          simp; omega

theorem splitP_count : ∀ s : List UInt8, (splitP s).length ≤ s.length + 1
  | [] => by simp [splitP]
  | c :: r => by
    have := splitP_count r
    simp only [splitP]
    split
    · simp; omega
    · split
      · simp
      · rename_i q qs hq
        rw [hq] at this
        simp at this ⊢; omega

def splitF : List CV → Option CV
  | [.str s, .str p] => if s.length ≤ 100000 ∧ p = [44] then some (.vec ((splitP s).map .str) (splitP s).length true) else none
  | _ => none

/-- The cells of all members; none: one is no member. -/
def itemsL : List (List UInt8) → Option (List CV)
  | [] => some []
  | p :: ps => if itemOk p then (itemsL ps).map fun r => .str (keyM p) :: .str (valM p) :: r else none
def itemsM (s : List UInt8) : CV :=
  if 200 < s.length then .tup [.nils, .int .i64 5] else
  if Lib.trimS s [32, 9] = [] then .tup [.nils, .int .i64 0] else
  match itemsL (splitP s) with
  | none => .tup [.nils, .int .i64 4]
  | some cs => if 16 < (splitP s).length then .tup [.nils, .int .i64 7] else if splitP s = [] then .tup [.nils, .int .i64 0] else .tup [.vec cs (splitP s).length false, .int .i64 0]
def itemsF : List CV → Option CV
  | [.str s] => if s.length ≤ 100000 then some (itemsM s) else none
  | _ => none

theorem itemsL_len : ∀ {ps : List (List UInt8)} {cs : List CV}, itemsL ps = some cs → cs.length = ps.length * 2
  | [], cs, h => by cases h; rfl
  | p :: ps, cs, h => by
    simp only [itemsL] at h
    split at h
    · obtain ⟨r, hr, rfl⟩ := Option.map_eq_some_iff.1 h
      have := itemsL_len hr
      simp; omega
    · cases h

theorem itemsL_strs : ∀ {ps : List (List UInt8)} {cs : List CV}, itemsL ps = some cs → ∀ c ∈ cs, ∃ l, c = .str l
  | [], cs, h, c, hc => by cases h; cases hc
  | p :: ps, cs, h, c, hc => by
    simp only [itemsL] at h
    split at h
    · obtain ⟨r, hr, rfl⟩ := Option.map_eq_some_iff.1 h
      rcases List.mem_cons.1 hc with rfl | hc
      · exact ⟨_, rfl⟩
      · rcases List.mem_cons.1 hc with rfl | hc
        · exact ⟨_, rfl⟩
        · exact itemsL_strs hr c hc
    · cases h

theorem items_runs (h33 : K 33 = pureC trimF) (h34 : K 34 = pureC splitF) (h35 : K 35 = pureC itemF) : ∀ args v, itemsF args = some v → args.length = f_prio_Items.np ∧ ∀ cw, Runs K f_prio_Items args cw v := by
  intro args v h
  unfold itemsF at h
  split at h
  · rename_i s
    split at h
    case isFalse => cases h
    rename_i hlen
    cases h
    refine ⟨rfl, fun cw Q hQ => ?_⟩
    have fin0 : ∀ (cw' : CW) n, CV.tup [.nils, .int .i64 n] = itemsM s → (∀ b, b < cw.next → cw'.get b = cw.get b) → Q .ret [(2, .nils), (3, .int .i64 n)] cw' := by
      intro cw' n e hk
      refine hQ .ret _ _ _ (.inr rfl) rfl ?_ hk
      rw [← e]; exact frz_plain rfl
    have fin1 : ∀ (cw' : CW) (b n : Nat) (cs : List CV), CV.tup [.vec cs n false, .int .i64 0] = itemsM s → cw.next ≤ b → cw'.get b = some (.cells cs) → cs.length = n * 2 → (∀ c ∈ cs, ∃ l, c = .str l) → (∀ b, b < cw.next → cw'.get b = cw.get b) →
        Q .ret [(2, .ref b 0 n 2), (3, .int .i64 0)] cw' := by
      intro cw' b n cs e hb hg hl hst hk
      refine hQ .ret _ _ _ (.inr rfl) rfl ?_ hk
      rw [← e]
      refine .tup rfl fun i c d hc hd => ?_
      match i with
      | 0 =>
        cases hc; cases hd
        refine .ref hb hg (by omega) hl fun i c d hi hc hd => ?_
        rw [Nat.zero_add] at hc
        rw [hc] at hd; cases hd
        obtain ⟨l, rfl⟩ := hst c (List.mem_of_getElem? hc)
        exact .str l
      | 1 => cases hc; cases hd; exact .int _ _
      | i + 2 => simp at hc
    clear hQ
    simp only [f_prio_Items, go_sem]
    cases h200 : decide ((s.length : Int) > 200) <;> simp only [go_sem]
    case true =>
      refine fin0 _ _ ?_ (fun _ _ => rfl)
      simp only [decide_eq_true_eq] at h200
      rw [itemsM, if_pos (by omega)]
    simp only [decide_eq_false_iff_not] at h200
    have hsl : ¬ 200 < s.length := by omega
    simp only [wpa_pure h33, trimF, hlen, go_sem]
    cases htr : (Lib.trimS s [32, 9] == []) <;> simp only [go_sem]
    case true =>
      refine fin0 _ _ ?_ (fun _ _ => rfl)
      rw [itemsM, if_neg hsl, if_pos (by simpa using htr)]
    have htr' : ¬ Lib.trimS s [32, 9] = [] := by simpa using htr
    have hM : itemsM s = (match itemsL (splitP s) with
      | none => .tup [.nils, .int .i64 4]
      | some cs => if 16 < (splitP s).length then .tup [.nils, .int .i64 7] else if splitP s = [] then .tup [.nils, .int .i64 0] else .tup [.vec cs (splitP s).length false, .int .i64 0]) := by
      rw [itemsM, if_neg hsl, if_neg htr']
    simp only [wpa_pure h34, splitF, hlen, go_sem]
    obtain ⟨parts, hparts⟩ : ∃ p, splitP s = p := ⟨_, rfl⟩
    have hcount := splitP_count s
    have hplen := splitP_len s
    rw [hparts] at hM hcount hplen ⊢
    refine wpk_loop (fun m ρ cw' => ∃ (i : Nat) (acc : List CV) (out : CV), m = parts.length - i ∧ i ≤ parts.length ∧ ρ = [(4, out), (16, .vec (parts.map .str) parts.length true), (17, .int .i64 parts.length), (18, .int .i64 i)] ∧
        itemsL parts = (itemsL (parts.drop i)).map (acc ++ ·) ∧ acc.length = i * 2 ∧ (∀ b, b < cw.next → cw'.get b = cw.get b) ∧ cw.next ≤ cw'.next ∧
        ((i = 0 ∧ out = .nils) ∨ ∃ b, 0 < i ∧ out = .ref b 0 i 2 ∧ cw'.get b = some (.cells acc) ∧ cw.next ≤ b ∧ b < cw'.next)) parts.length
      ⟨0, [], .nils, by omega, by omega, rfl, by simp, rfl, fun _ _ => rfl, Nat.le_refl _, .inl ⟨rfl, rfl⟩⟩ ?_
    rintro m ρ cw' N ⟨i, acc, out, rfl, hi, rfl, hacc, hal, hk, hnx, hout⟩ hN
    simp only [go_sem]
    cases hlt : decide ((i : Int) < parts.length)
    case false =>
      simp only [decide_eq_false_iff_not] at hlt
      have hie : i = parts.length := by omega
      rw [List.drop_of_length_le (by omega)] at hacc
      simp only [itemsL, Option.map_some, List.append_nil] at hacc
      rw [hacc] at hM
      simp only at hM
      rcases hout with ⟨h0, rfl⟩ | ⟨b, h0, rfl, hg, hb, _⟩
      · have hpn : parts = [] := List.length_eq_zero_iff.1 (by omega)
        have hd : decide ((0 : Int) > 16) = false := by decide
        simp only [go_sem, hd]
        refine fin0 _ _ ?_ hk
        rw [hM, hpn]
        rfl
      · have hpn : ¬ parts = [] := by rintro rfl; simp at hie; omega
        rw [if_neg hpn] at hM
        simp only [go_sem]
        cases h16 : decide ((i : Int) > 16) <;> simp only [go_sem]
        · simp only [decide_eq_false_iff_not] at h16
          rw [if_neg (by omega)] at hM
          refine fin1 _ _ _ acc ?_ hb hg hal (itemsL_strs hacc) hk
          rw [hM, hie]
        · simp only [decide_eq_true_eq] at h16
          rw [if_pos (by omega)] at hM
          exact fin0 _ _ hM.symm hk
    simp only [decide_eq_true_eq] at hlt
    obtain ⟨p, ps, hp⟩ : ∃ p ps, parts.drop i = p :: ps := ⟨_, _, List.drop_eq_getElem_cons (by omega)⟩
    have hlti : i < parts.length := by omega
    have hpe : parts[i] = p ∧ parts.drop (i + 1) = ps := by
      rw [List.drop_eq_getElem_cons hlti] at hp
      exact List.cons.inj hp
    have hat : (parts.map CV.str)[i]? = some (.str p) := by simp [hlti, hpe.1]
    have hple : p.length ≤ 100000 := by
      have := hplen p (by rw [← hpe.1]; exact List.getElem_mem _)
      omega
    have hin : 0 ≤ (i : Int) ∧ (i : Int) < parts.length := ⟨by omega, hlt⟩
    rw [hp] at hacc
    simp only [itemsL] at hacc
    simp only [go_sem, hin, hat, wpa_pure h35, itemF, hple]
    cases hok : itemOk p <;> simp only [go_sem]
    · rw [hok] at hacc
      simp only [Bool.false_eq_true, if_false, Option.map_none] at hacc
      rw [hacc] at hM
      refine fin0 _ _ hM.symm fun b hb => ?_
      simp only [go_sem]
      rw [if_neg (by omega), if_neg (by omega)]
      exact hk b hb
    · rw [hok] at hacc
      simp only [if_true, Option.map_map] at hacc
      have hacc' : itemsL parts = (itemsL (parts.drop (i + 1))).map ((acc ++ [.str (keyM p), .str (valM p)]) ++ ·) := by
        rw [hacc, hpe.2]
        congr 1
        funext r
        simp
      have hl2 : (acc ++ [CV.str (keyM p), CV.str (valM p)]).length = (i + 1) * 2 := by simp; omega
      have hw := wrap_i64 (n := (i : Int) + 1) (by omega) (by omega)
      have hlim : (1 : Nat) ≤ lim := by decide
      have hlim2 : i + 1 ≤ lim := by have : (200000 : Nat) ≤ lim := by decide
                                     omega
      rcases hout with ⟨rfl, rfl⟩ | ⟨b, h0, rfl, hg, hb, hb2⟩
      · simp only [go_sem, hlim]
        have h01 : IntKind.wrap .i64 ((0 : Nat) + 1) = ((0 + 1 : Nat) : Int) := by decide
        rw [h01]
        refine hN _ _ _ ?_ ⟨0 + 1, acc ++ [.str (keyM p), .str (valM p)], .ref (cw'.next + 1) 0 1 2, rfl, by omega, rfl, hacc', hl2, fun b hb => ?_, ?_, .inr ⟨cw'.next + 1, by omega, rfl, ?_, by omega, ?_⟩⟩
        · omega
        · rw [push_old (by simp only [go_sem]; omega), set_old (by omega), push_old (by omega)]
          exact hk b hb
        · simp only [go_sem]; omega
        · have : acc = [] := List.length_eq_zero_iff.1 (by omega)
          simp only [go_sem, this]
        · simp only [go_sem]; omega
      · have hbn : ¬ b = cw'.next := by omega
        have c1 : ¬ (i + 1) * 2 ≤ acc.length := by omega
        have c2 : i * 2 = acc.length ∧ i + 1 ≤ lim := ⟨hal.symm, hlim2⟩
        simp only [go_sem, hlim, hg, hbn, c1, c2, ne_eq, not_true_eq_false, hw]
        refine hN _ _ _ ?_ ⟨i + 1, acc ++ [.str (keyM p), .str (valM p)], .ref (cw'.next + 1) 0 (i + 1) 2, rfl, by omega, rfl, hacc', hl2, fun b' hb' => ?_, ?_, .inr ⟨cw'.next + 1, by omega, rfl, ?_, by omega, ?_⟩⟩
        · omega
        · rw [push_old (by simp only [go_sem]; omega), kill_old (by omega), set_old (by omega), push_old (by omega)]
          exact hk b' hb'
        · simp only [go_sem]; omega
        · simp only [go_sem]
        · simp only [go_sem]; omega
  · cases h

end Go.Cs
