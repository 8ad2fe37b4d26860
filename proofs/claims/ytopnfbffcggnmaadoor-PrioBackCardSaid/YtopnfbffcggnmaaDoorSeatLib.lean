/- The seat of prio: contracts of the library, as the canonical machine takes them. -/
import Derived.Test.YtopnfbffcggnmaaDoorSeatNum
import Derived.Test.YtopnfbffcggnmaaDoorPrioI
import Derived.Test.YtopnfbffcggnmaaDoorPrioS
import Derived.Test.YtopnfbffcggnmaaDoorShelf
import Derived.Shelf.Strings.SlTrimAscii
import Derived.MapKept
namespace Go.Cs
open Go.RowKit (Below)
open Go.Proofs (Tryd.prog)

/-- What is known of the package variables. -/
def GP (N : Nat) (w : World) : Prop := 2 ≤ N ∧ ∃ m, w.cell? ⟨1, 0, none⟩ = some (.int .i64 m)

theorem GP_at {N : Nat} {w0 w : World} (h : GP N w0) (hb : Below N w0 w) : ∃ m, w.cell? ⟨1, 0, none⟩ = some (.int .i64 m) := by
  obtain ⟨h4, m, hm⟩ := h
  exact ⟨m, by rw [hb.cell (p := ⟨1, 0, none⟩) (by show 1 < N; omega)]; exact hm⟩

theorem GP_st : ∀ N w0 w, GP N w0 → Below N w0 w → N ≤ w.heap.size → GP w.heap.size w :=
  fun _ _ _ h hb hN => ⟨Nat.le_trans h.1 hN, GP_at h hb⟩

theorem idx_sound : Sound Tryd.prog fidP GP 63 (pureC idxF) := by
  refine sound_lib ⟨Go.Proofs.Tryd.f63, Go.Proofs.Tryd.func63, by decide, by kernel_rfl⟩ ?_
  intro args v h
  unfold idxF at h
  split at h
  · rename_i o n
    cases h
    refine ⟨[.string ⟨o.toArray⟩, .int .u8 n], _, rfl, rfl, fun N w0 w hG hb hN => ?_⟩
    refine (Go.Proofs.Tryd.strings_IndexByte ⟨o.toArray⟩ n w).mono ?_
    rintro e w' ⟨rfl, rfl⟩
    exact ⟨rfl, Below.refl _ _⟩
  · cases h

theorem itoa_sound : Sound Tryd.prog fidP GP 21 (pureC itoaF) := by
  refine sound_lib ⟨Go.Proofs.Tryd.f21, Go.Proofs.Tryd.func21, by decide, by kernel_rfl⟩ ?_
  intro args v h
  unfold itoaF at h
  split at h
  · rename_i n
    split at h
    case isFalse => cases h
    rename_i hn
    cases h
    refine ⟨[.int .i64 n], _, rfl, rfl, fun N w0 w hG hb hN => ?_⟩
    have e1 : n = (n.toNat : Int) := by omega
    have := Go.Proofs.Tryd.strconv_Itoa_small n.toNat (by omega) w
    rw [← e1] at this
    refine this.mono ?_
    rintro e w' ⟨rfl, rfl⟩
    exact ⟨rfl, Below.refl _ _⟩
  · cases h

theorem trim_sound : Sound Tryd.prog fidP GP 28 (pureC trimF) := by
  refine sound_lib ⟨Go.Proofs.Tryd.f28, Go.Proofs.Tryd.func28, by decide, by kernel_rfl⟩ ?_
  intro args v h
  unfold trimF at h
  split at h
  · rename_i s p
    split at h
    case isFalse => cases h
    rename_i hc
    obtain ⟨hl, rfl⟩ := hc
    cases h
    refine ⟨[.string ⟨s.toArray⟩, .string ⟨#[32, 9]⟩], _, rfl, rfl, fun N w0 w hG hb hN => ?_⟩
    refine (Go.Proofs.Any.strings_Trim_laid Go.Proofs.Tryd.lays160 (by kernel_rfl) ⟨s.toArray⟩ ⟨#[32, 9]⟩ w (by simp [ByteArray.size]; omega) (by decide) (Go.Proofs.ascii_of_all (by decide))).mono ?_
    rintro e w' ⟨rfl, hb'⟩
    exact ⟨rfl, hb'⟩
  · cases h

theorem cut_sound : Sound Tryd.prog fidP GP 46 (pureC cut3F) := by
  refine sound_lib ⟨Go.Proofs.Tryd.f46, Go.Proofs.Tryd.func46, by decide, by kernel_rfl⟩ ?_
  intro args v h
  unfold cut3F at h
  split at h
  · rename_i s p
    split at h
    case isFalse => cases h
    rename_i hl
    cases h
    refine ⟨[.string ⟨s.toArray⟩, .string ⟨p.toArray⟩], _, rfl, rfl, fun N w0 w hG hb hN => ?_⟩
    obtain ⟨m, hm⟩ := GP_at hG hb
    refine (Go.Proofs.Tryd.strings_Cut ⟨s.toArray⟩ ⟨p.toArray⟩ m w (by simp [ByteArray.size]; omega) hm).mono ?_
    rintro e w' ⟨rfl, n, rfl⟩
    exact ⟨rfl, ⟨rfl, rfl, rfl, Nat.le_refl _, fun _ _ => rfl⟩⟩
  · cases h

theorem strs_at : ∀ {cs : List CV} {ls : List (List UInt8)}, strsOf cs = some ls → cs = ls.map CV.str
  | [], ls, h => by cases h; rfl
  | .str l :: r, ls, h => by
    simp only [strsOf, Option.bind_eq_some_iff] at h
    obtain ⟨q, hq, h⟩ := h
    cases h
    rw [strs_at hq]; rfl
  | .int _ _ :: _, _, h => by cases h
  | .bool _ :: _, _, h => by cases h
  | .nilp :: _, _, h => by cases h
  | .nils :: _, _, h => by cases h
  | .nilm :: _, _, h => by cases h
  | .nilf :: _, _, h => by cases h
  | .nili :: _, _, h => by cases h
  | .agg _ :: _, _, h => by cases h
  | .tup _ :: _, _, h => by cases h
  | .ptr _ _ :: _, _, h => by cases h
  | .row _ _ :: _, _, h => by cases h
  | .vec _ _ _ :: _, _, h => by cases h
  | .ref _ _ _ _ :: _, _, h => by cases h
  | .map _ :: _, _, h => by cases h
  | .fn _ _ _ :: _, _, h => by cases h
  | .ifc _ _ :: _, _, h => by cases h

theorem cell_new (w : World) (cs : Array Value) (t : TypeId) (i : Nat) : (w.alloc (.cells cs t)).cell? ⟨w.heap.size, i, none⟩ = cs[i]? := by
  have h : (w.alloc (.cells cs t)).heap[w.heap.size]? = some (.cells cs t) := (Go.MapKept.heap_alloc w _).1
  simp only [World.cell?, h]
  rfl

/-- strings.Split at a comma; what stands between the commas. -/
theorem split_sound : Sound Tryd.prog fidP GP 29 (pureC splitF) := by
  refine ⟨⟨Go.Proofs.Tryd.f29, Go.Proofs.Tryd.func29, by decide, by kernel_rfl⟩, ?_⟩
  rintro args cw Q ⟨v, hv, hq⟩ N w0 X w rargs hG hS hA
  unfold splitF at hv
  split at hv
  · rename_i s p
    split at hv
    case isFalse => cases hv
    rename_i hc
    obtain ⟨hl, rfl⟩ := hc
    cases hv
    have hra := args_plain (vs := [.string ⟨s.toArray⟩, .string ⟨#[44]⟩]) rfl hA
    subst hra
    obtain ⟨m, hm⟩ := GP_at hG hS.below
    refine (Go.Proofs.Tryd.strings_Split ⟨s.toArray⟩ ⟨#[44]⟩ m w (by simp [ByteArray.size]; omega) hm (by decide)).mono ?_
    rintro e w' ⟨rfl, rfl⟩
    rw [countB_comma s, splitB_comma s]
    obtain ⟨s1, ex⟩ := hS.imm (.cells (((splitP s).map fun l => (⟨l.toArray⟩ : ByteArray)).map Value.string).toArray 9)
    refine ⟨_, _, cw, _, rfl, hq, s1, ex, .vec (Nat.le_refl _) (fun _ => rfl) (fun i c hc => ?_) fun i c hc => ?_⟩
    · rw [List.getElem?_map] at hc
      obtain ⟨l, hl', rfl⟩ := Option.map_eq_some_iff.1 hc
      refine ⟨rfl, .inr rfl, ?_⟩
      rw [Nat.zero_add, cell_new]
      simp [hl']
    · rw [List.getElem?_map] at hc
      obtain ⟨l, hl', rfl⟩ := Option.map_eq_some_iff.1 hc
      unfold cellD
      rw [Nat.zero_add, cell_new]
      simp only [List.getElem?_toArray, List.getElem?_map, hl', Option.map_some, Option.getD_some]
      exact VR.str' l
  · cases hv


/-- strings.Join over a slice of whatever making. -/
theorem join_sound : Sound Tryd.prog fidP GP 22 (effC joinF) := by
  refine ⟨⟨Go.Proofs.Tryd.f22, Go.Proofs.Tryd.func22, by decide, by kernel_rfl⟩, ?_⟩
  rintro args cw Q ⟨⟨r, cw'⟩, hv, hq⟩ N w0 X w rargs hG hS hA
  unfold joinF at hv
  split at hv
  · rename_i v sep
    split at hv
    case isTrue => cases hv
    rename_i hns
    simp only [Option.bind_eq_some_iff] at hv
    obtain ⟨⟨cs, n⟩, h1, ls, h2, hv⟩ := hv
    split at hv
    case isFalse => cases hv
    rename_i hlen0
    obtain ⟨hlen, hcount⟩ := hlen0
    cases hv
    obtain ⟨rv, hrv⟩ : ∃ rv, rargs = #[rv, .string ⟨sep.toArray⟩] ∧ VR fidP X w v rv := by
      obtain ⟨h3, h4⟩ := hA
      refine ⟨rargs.getD 0 undef, ?_, h4 0 v rfl⟩
      have hsep := (h4 1 (.str sep) rfl).str_inv
      refine Array.ext (by simpa using h3) fun i hi hi' => ?_
      match i with
      | 0 => simp [Array.getD_eq_getD_getElem?, hi]
      | 1 => simpa [Array.getD_eq_getD_getElem?, hi] using hsep
      | i + 2 => simp at hi'; omega
    obtain ⟨rfl, hvr⟩ := hrv
    have hcs := strs_at h2
    have fin : ∀ (bk o c : Nat), rv = .slice (some ⟨bk, o, none⟩) n c → n ≤ c → bk < w.heap.size → ls.length = n → (∀ (j : Nat) (l : List UInt8), ls[j]? = some l → w.cell? ⟨bk, o + j, none⟩ = some (.string ⟨l.toArray⟩)) →
        Calls Tryd.prog 22 #[rv, .string ⟨sep.toArray⟩] w fun e w' => ∃ c v cw' X', e = .returned v ∧ Q c cw' ∧ Sim fidP N w0 X' cw' w' ∧ Ext X w X' w' ∧ VR fidP X' w' c v := by
      rintro bk o c rfl hnc hbk hln hcell
      have hmap : (ls.map fun l => (⟨l.toArray⟩ : ByteArray)).map (·.data.toList) = ls := by
        rw [List.map_map]; exact (List.map_congr_left fun l _ => rfl).trans (List.map_id ls)
      have hc := Go.Proofs.Tryd.strings_Join bk o c (ls.map fun l => ⟨l.toArray⟩) ⟨sep.toArray⟩ w (fun j x hx => by
        rw [List.getElem?_map] at hx
        obtain ⟨l, hl, rfl⟩ := Option.map_eq_some_iff.1 hx
        exact hcell j l hl) hbk (by simp; omega) (by simp; omega) (by rw [hmap]; show (Lib.join ls sep).length ≤ _; omega)
      rw [List.length_map, hln, hmap] at hc
      refine hc.mono ?_
      rintro e w' ⟨rfl, hb⟩
      obtain ⟨s1, ex⟩ := hS.same hb
      exact ⟨_, _, _, X, rfl, hq, s1, ex, VR.str' _⟩
    have fin0 : ∀ (a : Option Addr) (c : Nat), rv = .slice a 0 c → ls = [] →
        Calls Tryd.prog 22 #[rv, .string ⟨sep.toArray⟩] w fun e w' => ∃ c v cw' X', e = .returned v ∧ Q c cw' ∧ Sim fidP N w0 X' cw' w' ∧ Ext X w X' w' ∧ VR fidP X' w' c v := by
      rintro a c rfl rfl
      refine (Go.Proofs.Tryd.strings_Join_none a c ⟨sep.toArray⟩ w).mono ?_
      rintro e w' ⟨rfl, rfl⟩
      exact ⟨_, _, _, X, rfl, hq, hS, Ext.refl _ _, VR.str' []⟩
    cases hvr with
    | nils =>
      cases h1
      refine fin0 none 0 rfl ?_
      simpa using hcs
    | @vec vcs vn cap rr oo clip hnc hcl hI hV =>
      simp only [seqOf] at h1
      split at h1
      · rename_i hl1
        cases h1
        simp only at hcs
        by_cases hz : ls = []
        · have : n = 0 := by rw [hcs, hz] at hl1; simpa using hl1.symm
          subst this
          exact fin0 _ _ rfl hz
        · have hpos : 0 < ls.length := List.length_pos_iff.2 hz
          have hln : ls.length = n := by rw [hcs] at hl1; simpa using hl1
          refine fin rr oo cap rfl hnc ?_ hln fun j l hj => ?_
          · have h0 : cs[0]? = some (.str ls[0]) := by rw [hcs]; simp [hpos]
            exact hS.lt rr (oo + 0) (hI 0 _ h0).2.1
          · have hj' : cs[j]? = some (.str l) := by rw [hcs]; simp [hj]
            have h5 := (hI j _ hj').2.2
            have h6 := (hV j _ hj').str_inv
            obtain ⟨q, hq'⟩ := Option.isSome_iff_exists.1 h5
            unfold cellD at h6
            rw [hq'] at h6 ⊢
            simpa using h6
      · cases h1
    | @ref b off rn sz cap a hb hnc hm =>
      simp only [seqOf] at h1
      split at h1
      · rename_i hsz
        subst hsz
        split at h1
        · rename_i bcs hg
          split at h1
          · rename_i hle
            cases h1
            simp only at hcs
            obtain ⟨m, hM, hrow⟩ := hS.rowAt hg
            obtain ⟨rfl, _⟩ := hm m hM
            have hln : ls.length = n := by
              have := congrArg List.length hcs
              simp at this; omega
            obtain ⟨_, m', hM', hor⟩ := hS.blk b _ hg
            rw [hM] at hM'; cases hM'
            refine fin m.1 (m.2.1 + off) cap rfl hnc hor.at hln fun j l hj => ?_
            have hjl : j < n := by rw [← hln]; exact (List.getElem?_eq_some_iff.1 hj).1
            have hj' : bcs[off + j]? = some (.str l) := by
              have : ((bcs.drop off).take (n * 1))[j]? = some (CV.str l) := by rw [hcs]; simp [hj]
              rw [List.getElem?_take, List.getElem?_drop] at this
              rwa [if_pos (by omega)] at this
            obtain ⟨_, q, hq1, hq2⟩ := hrow (off + j) _ hj'
            rw [Nat.add_assoc, hq1, hq2.str_inv]
          · cases h1
        · cases h1
      · cases h1
    | str => exact absurd rfl hns
    | _ => cases h1
  · cases hv

end Go.Cs
