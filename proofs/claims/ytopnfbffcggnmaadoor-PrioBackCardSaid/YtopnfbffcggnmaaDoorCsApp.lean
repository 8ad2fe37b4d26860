/- 'append', on canonical slices and on Go's. -/
import Derived.Test.YtopnfbffcggnmaaDoorCsOpC
import Derived.Deep.AppendSrc
import Derived.Lib.AppendZerosOnto
namespace Go.Cs
open Go.RowKit (Below)
variable {P : Program} {fid : FuncId → Option Nat} {N : Nat} {w0 : World} {X : Cx} {cw : CW} {w : World} {ρ : Env} {a : Act}

theorem growBy_le (need : Nat) : ∀ (r c : Nat), c ≤ 2 * need + 512 → Builtin.growBy need r c ≤ 2 * need + 512
  | 0, c, h => h
  | r + 1, c, h => by
    simp only [Builtin.growBy]
    split
    · exact h
    · exact growBy_le need r _ (by omega)

theorem nextcap_le (need cap : Nat) (h : cap < need) : Builtin.nextslicecap need cap ≤ 2 * need + 512 := by
  unfold Builtin.nextslicecap
  split
  · omega
  · split
    · omega
    · exact growBy_le need 4 cap (by omega)

theorem cell_heap {w w' : World} (h : w'.heap = w.heap) (p : Addr) : w'.cell? p = w.cell? p := by simp only [World.cell?, h]

theorem RowAt.vals' {r o : Nat} {cs : List CV} (h : RowAt fid X w r o cs) : ∃ vs : List Value, vs.length = cs.length ∧
    (∀ w', w'.heap = w.heap → ∀ k, k ≤ cs.length → (loadCells ⟨r, o, none⟩ k).run P w' = .ok (vs.take k).toArray w') ∧ ∀ (i : Nat) (c : CV), cs[i]? = some c → c.one = true ∧ VR fid X w c (vs[i]?.getD undef) := by
  obtain ⟨vs, h1, h2, h3⟩ := h.vals
  refine ⟨vs, h1, fun w' hw k hk => ?_, h3⟩
  have hl : (vs.take k).length = k := by rw [List.length_take]; omega
  have := loadCells_run (P := P) (w := w') (r := r) (o := o) (vs := vs.take k) fun i v hv => by
    rw [List.getElem?_take] at hv
    split at hv
    · rw [cell_heap hw]; exact h2 i v hv
    · cases hv
  rw [hl] at this
  exact this

theorem byteCells_at {l : List UInt8} {i : Nat} {c : CV} (h : (byteCells l)[i]? = some c) : ∃ b, l[i]? = some b ∧ c = .int .u8 b.toNat := by
  unfold byteCells at h
  simp only [List.getElem?_map, Option.map_eq_some_iff] at h
  obtain ⟨b, hb, rfl⟩ := h
  exact ⟨b, hb, rfl⟩

/-- What is put behind: its cells, however often they are read. -/
theorem seq_src {y : CV} {v : Value} {sz : Nat} {p : List CV × Nat} (hS : Sim fid N w0 X cw w) (hv : VR fid X w y v) (h : seqOf cw sz y = some p) :
    (∀ w', (Builtin.lenOf v).run P w' = .ok p.2 w') ∧ p.1.length = p.2 * sz ∧ ∃ ys : List Value, ys.length = p.1.length ∧
      (∀ w', w'.heap = w.heap → ∀ k, k ≤ p.2 → (Builtin.firstCells sz k v).run P w' = .ok (ys.take (k * sz)).toArray w') ∧
      ∀ (i : Nat) (c : CV), p.1[i]? = some c → c.one = true ∧ VR fid X w c (ys[i]?.getD undef) := by
  cases y with
  | nils =>
    cases h; cases hv
    exact ⟨fun _ => rfl, by simp, [], rfl, fun w' _ k _ => by simp [Builtin.firstCells], by simp⟩
  | vec cs n clip =>
    simp only [seqOf] at h
    split at h
    · rename_i hl
      cases h
      obtain ⟨r, o, cap, rfl, h1, h2, h3, h4⟩ := hv.vec_inv
      obtain ⟨vs, k1, k2, k3⟩ := h3.vals' (P := P)
      refine ⟨fun _ => rfl, hl, vs, k1, fun w' hw k hk => ?_, k3⟩
      simp only [Builtin.firstCells]
      exact k2 w' hw _ (by rw [hl]; exact Nat.mul_le_mul_right _ hk)
    · cases h
  | ref b off n s =>
    simp only [seqOf] at h
    split at h
    · rename_i hs
      subst hs
      split at h
      · rename_i cs hg
        split at h
        · rename_i hle
          cases h
          obtain ⟨m, hm, hr⟩ := hS.rowAt hg
          cases hv with
          | ref h1 h2 h3 =>
            obtain ⟨rfl, _⟩ := h3 m hm
            have hlen : ((cs.drop off).take (n * s)).length = n * s := by rw [List.length_take, List.length_drop]; omega
            obtain ⟨vs, k1, k2, k3⟩ := (hr.sub off (n * s)).vals' (P := P)
            refine ⟨fun _ => rfl, hlen, vs, k1, fun w' hw k hk => ?_, k3⟩
            simp only [Builtin.firstCells]
            exact k2 w' hw _ (by rw [hlen]; exact Nat.mul_le_mul_right _ hk)
        · cases h
      · cases h
    · cases h
  | str l =>
    simp only [seqOf] at h
    split at h
    · rename_i hs
      subst hs
      cases h
      rw [hv.str_inv]
      refine ⟨fun _ => ?_, by simp [byteCells], l.map fun b => .int .u8 b.toNat, by simp [byteCells], fun w' _ k hk => ?_, fun i c hc => ?_⟩
      · simp [Builtin.lenOf, ByteArray.size]
      · simp only [Builtin.firstCells, Sem.run_pure]
        congr 1
        apply Array.ext'
        simp [List.map_take, ByteArray.data_extract, List.extract]
      · obtain ⟨b, hb, rfl⟩ := byteCells_at hc
        simp only [List.getElem?_map, hb, Option.map_some, Option.getD_some]
        exact ⟨rfl, .int _ _⟩
    · cases h
  | _ => simp [seqOf] at h

/-- All of it. -/
theorem seq_all {y : CV} {v : Value} {sz : Nat} {p : List CV × Nat} (hS : Sim fid N w0 X cw w) (hv : VR fid X w y v) (h : seqOf cw sz y = some p) :
    (∀ w', (Builtin.lenOf v).run P w' = .ok p.2 w') ∧ p.1.length = p.2 * sz ∧ ∃ ys : List Value, ys.length = p.1.length ∧
      (∀ w', w'.heap = w.heap → (Builtin.firstCells sz p.2 v).run P w' = .ok ys.toArray w') ∧
      (∀ w', w'.heap = w.heap → ∀ k, k ≤ p.2 → (Builtin.firstCells sz k v).run P w' = .ok (ys.take (k * sz)).toArray w') ∧
      ∀ (i : Nat) (c : CV), p.1[i]? = some c → c.one = true ∧ VR fid X w c (ys[i]?.getD undef) := by
  obtain ⟨h1, h2, ys, h3, h4, h5⟩ := seq_src (P := P) hS hv h
  refine ⟨h1, h2, ys, h3, fun w' hw => ?_, h4, h5⟩
  rw [h4 w' hw p.2 (Nat.le_refl _), List.take_of_length_le (by omega)]

theorem list_at_arr (l1 l2 : List Value) (r : Array Value) (i : Nat) : (l1.toArray ++ l2.toArray ++ r).getD i undef =
    if i < l1.length then l1[i]?.getD undef else if i < l1.length + l2.length then l2[i - l1.length]?.getD undef else r.getD (i - (l1.length + l2.length)) undef := by
  rw [Array.getD_eq_getD_getElem?]
  by_cases h1 : i < l1.length
  · rw [if_pos h1, Array.getElem?_append_left (by simp; omega), Array.getElem?_append_left (by simpa using h1)]
    simp
  · rw [if_neg h1]
    by_cases h2 : i < l1.length + l2.length
    · rw [if_pos h2, Array.getElem?_append_left (by simp; omega), Array.getElem?_append_right (by simpa using h1)]
      simp
    · rw [if_neg h2, Array.getElem?_append_right (by simp; omega), Array.getD_eq_getD_getElem?]
      simp

/-- The cells of two rows, one behind the other, and more. -/
theorem two_rows {xc yc : List CV} {xs ys : List Value} {r : Array Value} (hx : xs.length = xc.length) (hy : ys.length = yc.length)
    (h1 : ∀ (i : Nat) (c : CV), xc[i]? = some c → c.one = true ∧ VR fid X w c (xs[i]?.getD undef))
    (h2 : ∀ (i : Nat) (c : CV), yc[i]? = some c → c.one = true ∧ VR fid X w c (ys[i]?.getD undef)) (i : Nat) (c : CV) (hc : (xc ++ yc)[i]? = some c) :
    c.one = true ∧ VR fid X w c ((xs.toArray ++ ys.toArray ++ r).getD i undef) := by
  rw [list_at_arr]
  by_cases hi : i < xc.length
  · rw [if_pos (by omega)]
    rw [List.getElem?_append_left hi] at hc
    exact h1 i c hc
  · have hlt : i < (xc ++ yc).length := (List.getElem?_eq_some_iff.1 hc).1
    rw [List.length_append] at hlt
    rw [if_neg (by omega), if_pos (by omega)]
    rw [List.getElem?_append_right (by omega)] at hc
    rw [hx]
    exact h2 _ c hc

/-- What 'append' does of one thing that is put behind: in place, or in a new row. -/
structure AppF (P : Program) (w : World) (run : Value → Result Value) (e : TypeId) (m sz : Nat) (ys : List Value) : Prop where
  none : m = 0 → run (.slice none 0 0) = .ok (.slice none 0 0) w
  room : ∀ (r o n cap : Nat) (w' : World), n + m ≤ cap → (storeCells ⟨r, o + n * sz, Option.none⟩ ys 0).run P w = .ok () w' →
    run (.slice (some ⟨r, o, Option.none⟩) n cap) = .ok (.slice (some ⟨r, o, Option.none⟩) (n + m) cap) w'
  zero : m = 0 → ∀ (a : Addr) (n cap : Nat), n ≤ cap → run (.slice (some a) n cap) = .ok (.slice (some a) n cap) w
  grow : ∀ (base : Option Addr) (n cap : Nat) (olds : List Value), (Builtin.firstCells sz n (.slice base n cap)).run P w.drew = .ok olds.toArray w.drew → cap < n + m → n + m ≤ lim → olds.length = n * sz →
    ∃ (newcap : Nat) (rest : Array Value), n + m ≤ newcap ∧ (olds.toArray ++ ys.toArray ++ rest).size = newcap * sz ∧
      run (.slice base n cap) = .ok (.slice (some ⟨w.heap.size, 0, Option.none⟩) (n + m) newcap) (w.drew.alloc (.cells (olds.toArray ++ ys.toArray ++ rest) e))

theorem drew_below (w : World) : Below w.heap.size w w.drew := ⟨rfl, rfl, rfl, Nat.le_refl _, fun _ _ => rfl⟩

/-- A new row out of two. -/
theorem grown_ok (hS : Sim fid N w0 X cw w) {xc yc : List CV} {xs ys : List Value} {rest : Array Value} {e : TypeId} {n cap sz : Nat} (hx : xs.length = xc.length) (hy : ys.length = yc.length)
    (h1 : ∀ (i : Nat) (c : CV), xc[i]? = some c → c.one = true ∧ VR fid X w c (xs[i]?.getD undef))
    (h2 : ∀ (i : Nat) (c : CV), yc[i]? = some c → c.one = true ∧ VR fid X w c (ys[i]?.getD undef))
    (hn : n ≤ cap) (hsz : (xs.toArray ++ ys.toArray ++ rest).size = cap * sz) :
    ∃ X', Sim fid N w0 X' (cw.push (.cells (xc ++ yc))) (w.drew.alloc (.cells (xs.toArray ++ ys.toArray ++ rest) e)) ∧ Ext X w X' (w.drew.alloc (.cells (xs.toArray ++ ys.toArray ++ rest) e)) ∧
      VR fid X' (w.drew.alloc (.cells (xs.toArray ++ ys.toArray ++ rest) e)) (.ref cw.next 0 n sz) (.slice (some ⟨w.heap.size, 0, none⟩) n cap) := by
  obtain ⟨s1, e1⟩ := hS.same (drew_below w)
  obtain ⟨X', s2, e2, hnx, hM⟩ := new_mut (T := e) (fr := (0, 0)) s1 (cs := xc ++ yc) (rcs := xs.toArray ++ ys.toArray ++ rest) (by simp; omega) (.inl (Nat.le_refl _))
    fun i c hc => by
      obtain ⟨k1, k2⟩ := two_rows (r := rest) hx hy h1 h2 i c hc
      exact ⟨k1, k2.mono e1⟩
  refine ⟨X', s2, e1.trans e2, .ref (by omega) hn fun m hm => ?_⟩
  rw [hM] at hm
  cases hm
  exact ⟨rfl, by rw [Nat.zero_add]; exact hsz.symm⟩

theorem mul_le_of {a b sz : Nat} (h : a * sz ≤ b * sz) (hs : sz ≠ 0) : a ≤ b := Nat.le_of_mul_le_mul_right h (by omega)

theorem zeroCells_size (z : Array Value) (n : Nat) : (Builtin.zeroCells z n).size = n * z.size := by simp [Builtin.zeroCells]

theorem appF_src {t u ty e : TypeId} {i : TypeInfo} {d : TypeDesc} {m sz : Nat} {ys : List Value} {yv : Value} (ht : P.underlying t = some (.slice e)) (hi : P.info? e = some i) (hsz : i.size = sz)
    (hb : ¬ i.bytes > 1024) {z : Value} (hz : i.zero = some z) (hzs : z.cells.size = i.size) (hs : Src P i.size u yv m ys w) : AppF P w (fun x => (Builtin.append_ #[t, u] ty #[x, yv]).run P w) e m sz ys := by
  subst hsz
  have hstep : ∀ (base : Option Addr) (n cap : Nat), n + m ≤ cap → (Builtin.append_ #[t, u] ty #[.slice base n cap, yv]).run P w =
      (match base with
      | some a => ((storeCells (a.add (n * i.size)) ys).run P w).andThen fun _ w' => .ok (Value.slice base (n + m) cap) w'
      | none => .ok (Value.slice base (n + m) cap) w) := by
    intro base n cap hroom
    rcases hs.kind with ⟨e', hk⟩ | hk <;> cases base <;> simp [Builtin.append_, run_underlying ht, run_underlying hk, sizeOf, typeInfo, hi, hs.len, hroom, hs.cells]
  refine ⟨fun hm => ?_, fun r o n cap w' hroom hst => ?_, fun hm a n cap hle => ?_, fun base n cap olds hold hlt hlim hol => ?_⟩
  · subst hm
    show (Builtin.append_ #[t, u] ty #[.slice none 0 0, yv]).run P w = _
    rw [hstep none 0 0 (by omega)]
  · show (Builtin.append_ #[t, u] ty #[.slice (some ⟨r, o, none⟩) n cap, yv]).run P w = _
    rw [hstep _ n cap hroom]
    simp only [add_none, hst, Result.andThen_ok]
  · subst hm
    have hys : ys = [] := List.length_eq_zero_iff.1 (by rw [hs.newsLen]; simp)
    subst hys
    show (Builtin.append_ #[t, u] ty #[.slice (some a) n cap, yv]).run P w = _
    rw [hstep _ n cap (by omega)]
    simp [storeCells]
  · unfold lim at hlim
    have hfit : Builtin.nextslicecap (n + m) cap * i.bytes ≤ 281474976710656 := by
      have h1 := nextcap_le (n + m) cap hlt
      calc Builtin.nextslicecap (n + m) cap * i.bytes ≤ (2 * (n + m) + 512) * 1024 := Nat.mul_le_mul h1 (by omega)
        _ ≤ 281474976710656 := by omega
    have hg := run_append_grow_src (P := P) w t u ty e i z ht hi hz base n cap olds hold yv m ys hs hlt (by omega) hfit
    have hcap : n + m ≤ grownCap w (n + m) cap e := by unfold grownCap; simp only [Question.cut]; omega
    refine ⟨grownCap w (n + m) cap e, Builtin.zeroCells z.cells (grownCap w (n + m) cap e - (n + m)), hcap, ?_, ?_⟩
    · simp only [Array.size_append, List.size_toArray, zeroCells_size, hs.newsLen, hol, hzs]
      rw [← Nat.add_mul, ← Nat.add_mul]
      congr 1
      omega
    · show (Builtin.append_ #[t, u] ty #[.slice base n cap, yv]).run P w = _
      rw [hg]
      simp

theorem appF_zeros {t u ty e : TypeId} {i : TypeInfo} {kn kq : IntKind} {m sz : Nat} (ht : P.underlying t = some (.slice e)) (hu : P.underlying u = some (.int kn)) (hi : P.info? e = some i) (hsz : i.size = sz)
    (hb : ¬ i.bytes > 1024) (hnz : sz ≠ 0) {z : Value} (hz : i.zero = some z) (hzs : z.cells.size = i.size) (hm : m ≤ lim) :
    AppF P w (fun x => (Builtin.append_ #[t, u] ty #[x, .int kq m]).run P w) e m sz (Builtin.zeroCells z.cells m).toList := by
  subst hsz
  unfold lim at hm
  have hw : IntKind.i64.wrap (m : Int) = m := by rw [IntKind.wrap_i64]; omega
  have hneg : ¬ ((m : Int) < 0) := by omega
  have h48i : ¬ (281474976710656 < (m : Int) * (i.bytes : Int)) := by
    rw [← Int.natCast_mul]
    have : m * i.bytes ≤ 2 ^ 36 * 1024 := Nat.mul_le_mul hm (by omega)
    omega
  have happ : (if m * i.size = 0 then pure #[] else do pure (Builtin.zeroCells (← zeroValue e).cells m) : Sem (Array Value)).run P w = .ok (Builtin.zeroCells z.cells m) w := by
    split
    · rename_i h0
      rw [show Builtin.zeroCells z.cells m = #[] from Array.eq_empty_of_size_eq_zero (by rw [zeroCells_size, hzs]; exact h0)]
      rfl
    · simp [zeroValue, typeInfo, hi, hz]
  have hstep : ∀ (base : Option Addr) (n cap : Nat), n + m ≤ cap → (Builtin.append_ #[t, u] ty #[.slice base n cap, .int kq m]).run P w =
      (match base with
      | some a => ((storeCells (a.add (n * i.size)) (Builtin.zeroCells z.cells m).toList).run P w).andThen fun _ w' => .ok (Value.slice base (n + m) cap) w'
      | none => .ok (Value.slice base (n + m) cap) w) := by
    intro base n cap hroom
    by_cases h0 : m * i.size = 0
    · simp only [h0, if_true, Sem.run_pure, Result.ok.injEq, and_true] at happ
      cases base <;> simp [Builtin.append_, run_underlying ht, run_underlying hu, sizeOf, typeInfo, hi, asInt, asIntOf, hw, hneg, h48i, hroom, h0, ← happ]
    · cases base <;> simp [Builtin.append_, run_underlying ht, run_underlying hu, sizeOf, typeInfo, zeroValue, hi, hz, asInt, asIntOf, hw, hneg, h48i, hroom, h0]
  refine ⟨fun hm => ?_, fun r o n cap w' hroom hst => ?_, fun hm a n cap hle => ?_, fun base n cap olds hold hlt hlim hol => ?_⟩
  · subst hm
    show (Builtin.append_ #[t, u] ty #[.slice none 0 0, _]).run P w = _
    rw [hstep none 0 0 (by omega)]
  · show (Builtin.append_ #[t, u] ty #[.slice (some ⟨r, o, none⟩) n cap, _]).run P w = _
    rw [hstep _ n cap hroom]
    simp only [add_none, hst, Result.andThen_ok]
  · subst hm
    have hys : Builtin.zeroCells z.cells 0 = #[] := Array.eq_empty_of_size_eq_zero (by rw [zeroCells_size]; omega)
    show (Builtin.append_ #[t, u] ty #[.slice (some a) n cap, _]).run P w = _
    rw [hstep _ n cap (by omega), hys]
    simp [storeCells]
  · unfold lim at hlim
    by_cases hm0 : m = 0
    · -- nothing is put behind, and there is no room for what is there: cannot be asked, but of a slice that is longer than its room
      subst hm0
      have hfit : Builtin.nextslicecap (n + 0) cap * i.bytes ≤ 281474976710656 := by
        have h1 := nextcap_le (n + 0) cap hlt
        calc Builtin.nextslicecap (n + 0) cap * i.bytes ≤ (2 * (n + 0) + 512) * 1024 := Nat.mul_le_mul h1 (by omega)
          _ ≤ 281474976710656 := by omega
      have hn : ¬ (n ≤ cap) := by omega
      have h63' : ¬ (9223372036854775807 < (n : Int)) := by omega
      have h48' : ¬ (281474976710656 < Builtin.nextslicecap n cap * i.bytes) := by simpa using hfit
      have hcap : n ≤ grownCap w n cap e := by unfold grownCap; simp only [Question.cut]; omega
      refine ⟨grownCap w n cap e, Builtin.zeroCells z.cells (grownCap w n cap e - n), hcap, ?_, ?_⟩
      · simp only [Array.size_append, List.size_toArray, Array.toArray_toList, zeroCells_size, hol, hzs]
        rw [← Nat.add_mul, ← Nat.add_mul]
        congr 1
        omega
      · show (Builtin.append_ #[t, u] ty #[.slice base n cap, _]).run P w = _
        have hw0 : IntKind.i64.wrap 0 = 0 := by decide
        have hz0 : Builtin.zeroCells z.cells 0 = #[] := Array.eq_empty_of_size_eq_zero (by rw [zeroCells_size]; omega)
        simp [Builtin.append_, run_underlying ht, run_underlying hu, sizeOf, typeInfo, zeroValue, hi, hz, asInt, asIntOf, hw0, hn, h63', h48', Question.forced, hold, newRow, grownCap, hz0]
    · have hfit : Builtin.nextslicecap (n + m) cap * i.bytes ≤ 281474976710656 := by
        have h1 := nextcap_le (n + m) cap hlt
        calc Builtin.nextslicecap (n + m) cap * i.bytes ≤ (2 * (n + m) + 512) * 1024 := Nat.mul_le_mul h1 (by omega)
          _ ≤ 281474976710656 := by omega
      have h48 : m * i.bytes ≤ 281474976710656 := by
        have : m * i.bytes ≤ 2 ^ 36 * 1024 := Nat.mul_le_mul hm (by omega)
        omega
      have hg := Lib.run_append_grow_zeros (P := P) w t u ty e i z kq kn ht hu hi hz base n cap olds hold m (by omega) (by omega) hlt (by omega) h48 hfit
      have hcap : n + m ≤ grownCap w (n + m) cap e := by unfold grownCap; simp only [Question.cut]; omega
      refine ⟨grownCap w (n + m) cap e, Builtin.zeroCells z.cells (grownCap w (n + m) cap e - (n + m)), hcap, ?_, ?_⟩
      · simp only [Array.size_append, List.size_toArray, Array.toArray_toList, zeroCells_size, hol, hzs]
        rw [← Nat.add_mul, ← Nat.add_mul]
        congr 1
        omega
      · show (Builtin.append_ #[t, u] ty #[.slice base n cap, _]).run P w = _
        rw [hg]

theorem app_core {run : Value → Result Value} {e : TypeId} {m sz : Nat} {yc : List CV} {ys : List Value} (hF : AppF P w run e m sz ys) (hS : Sim fid N w0 X cw w) {x c : CV} {xv : Value} {cw' : CW}
    (hx : VR fid X w x xv) (hy : ys.length = yc.length) (hyc : yc.length = m * sz) (h2 : ∀ (i : Nat) (c : CV), yc[i]? = some c → c.one = true ∧ VR fid X w c (ys[i]?.getD undef))
    (hsz : sz ≠ 0) (h : appV cw sz x yc m = some (c, cw')) :
    ∃ v w' X', run xv = .ok v w' ∧ Sim fid N w0 X' cw' w' ∧ Ext X w X' w' ∧ VR fid X' w' c v := by
  cases x with
  | nils =>
    simp only [appV] at h
    cases hx
    split at h
    · rename_i hm
      cases h
      exact ⟨_, w, X, hF.none hm, hS, .refl X w, .nils⟩
    · split at h
      · rename_i hm hlim
        cases h
        obtain ⟨nc, rest, g1, g2, g3⟩ := hF.grow none 0 0 [] rfl (by omega) (by omega) (by simp)
        obtain ⟨X', s, ex, hv⟩ := grown_ok hS (xc := []) (xs := []) (e := e) rfl hy (by simp) h2 (n := 0 + m) g1 g2
        rw [Nat.zero_add] at hv g3
        exact ⟨_, _, X', g3, s, ex, hv⟩
      · cases h
  | vec cs n clip =>
    simp only [appV] at h
    split at h
    · rename_i hm
      cases h
      obtain ⟨r, o, cap, rfl, k1, k2, k3, k4⟩ := hx.vec_inv
      exact ⟨_, w, X, hF.zero hm _ _ _ k1, hS, .refl X w, hx⟩
    · rename_i hm
      split at h
      · rename_i hc
        obtain ⟨hc1, hc2, hc3⟩ := hc
        cases h
        obtain ⟨r, o, cap, rfl, k1, k2, k3, k4⟩ := hx.vec_inv
        cases k2 hc1
        obtain ⟨vs, q1, q2, q3⟩ := k3.vals' (P := P)
        obtain ⟨nc, rest, g1, g2, g3⟩ := hF.grow (some ⟨r, o, none⟩) n n vs (by simp only [Builtin.firstCells]; rw [q2 w.drew rfl _ (by omega), List.take_of_length_le (by omega)]) (by omega) hc2 (by omega)
        obtain ⟨X', s, ex, hv⟩ := grown_ok hS (e := e) q1 hy q3 h2 g1 g2
        exact ⟨_, _, X', g3, s, ex, hv⟩
      · cases h
  | ref b off n s =>
    simp only [appV] at h
    split at h
    · rename_i hm
      cases h
      cases hx with
      | ref k1 k2 k3 => exact ⟨_, w, X, hF.zero hm _ _ _ k2, hS, .refl X w, .ref k1 k2 k3⟩
    · rename_i hm
      split at h
      · cases h
      · rename_i hs
        have hs : s = sz := Classical.not_not.1 hs
        subst hs
        split at h
        · rename_i cs hg
          cases hx with
          | @ref _ _ _ _ cap ad k1 k2 k3 =>
            split at h
            · rename_i hle
              cases h
              obtain ⟨mm, w', hmm, hst, s1, e1⟩ := store_sim (P := P) hS hg (off := off + n * s) (ds := yc) (by rw [hyc]; rw [Nat.add_mul] at hle; omega) hy h2
              obtain ⟨rfl, hcap⟩ := k3 mm hmm
              obtain ⟨_, hmm', hor⟩ := hS.get hg
              rw [hmm] at hmm'; cases hmm'
              obtain ⟨rcs, T, fr, o1, o2, o3, o4, o5⟩ := hor
              have hroom : n + m ≤ cap := mul_le_of (sz := s) (by omega) hsz
              exact ⟨_, w', X, hF.room mm.1 (mm.2.1 + off) n cap w' hroom (by rw [Nat.add_assoc]; exact hst), s1, e1, .ref k1 hroom fun m' hm' => by
                rw [hmm] at hm'; cases hm'; exact ⟨rfl, hcap⟩⟩
            · rename_i hle
              split at h
              · rename_i hc
                obtain ⟨hfr, hlim⟩ := hc
                cases h
                obtain ⟨mm, hmm, hor⟩ := hS.get hg
                obtain ⟨rfl, hcap⟩ := k3 mm hmm
                obtain ⟨rcs, T, fr, o1, o2, o3, o4, o5⟩ := hor
                obtain ⟨sk, ek⟩ := hS.kill b
                by_cases hroom : n + m ≤ cap
                · -- in place, behind what is told
                  have hmul : (n + m) * s ≤ cap * s := Nat.mul_le_mul_right _ hroom
                  rw [Nat.add_mul] at hmul
                  have hone : ∀ v ∈ ys, v.oneCell' = true := by
                    intro v hvm
                    obtain ⟨i, hi, rfl⟩ := List.getElem_of_mem hvm
                    obtain ⟨q1, q2⟩ := h2 i _ (List.getElem?_eq_getElem (by omega))
                    rw [List.getElem?_eq_getElem hi] at q2
                    exact one_vr q2 q1
                  obtain ⟨w', rcs', t1, t2, t3, t4⟩ := storeCells_run (P := P) ys (mm.2.1 + off + n * s) 0 w rcs o1 o4 (by omega) hone
                  have hMk : ∀ b' m', (if b' = b then none else X.M b') = some m' → m'.1 ≠ mm.1 := by
                    intro b' m' hm' he
                    by_cases hb : b' = b
                    · rw [if_pos hb] at hm'; cases hm'
                    · rw [if_neg hb] at hm'
                      exact hb (hS.inj b' b m' mm hm' hmm he)
                  have hpush := sk.pushG (w' := w') (rb := mm.1) (base := mm.2.1 + off) (e := cap * s) (o := .cells (cs.drop off ++ yc)) (hS.sep b mm hmm).1 (hS.sep b mm hmm).2 hMk
                    (fun r hr _ => t2.there r hr) (by rw [t2.size]; exact Nat.le_refl _) t2.os t2.tape t2.output fun ex => by
                      have ex' := ek.trans ex
                      refine ⟨rcs', T, fr, t2.here, by simp only [List.length_append, List.length_drop, hyc]; omega, by rw [t3]; show mm.2.1 + off + cap * s ≤ rcs.size; omega, by rw [t3]; exact o4, fun i c hc => ?_⟩
                      show c.one = true ∧ VR fid _ w' c (rcs'.getD (mm.2.1 + off + i) undef)
                      rw [Array.getD_eq_getD_getElem?, t4]
                      by_cases hi : i < cs.length - off
                      · rw [List.getElem?_append_left (by rw [List.length_drop]; exact hi), List.getElem?_drop] at hc
                        obtain ⟨q1, q2⟩ := o5 _ c hc
                        rw [if_neg (by omega), ← Array.getD_eq_getD_getElem?]
                        refine ⟨q1, ?_⟩
                        rw [Nat.add_assoc]
                        exact q2.mono ex'
                      · have hlt : i < (cs.drop off ++ yc).length := (List.getElem?_eq_some_iff.1 hc).1
                        rw [List.length_append, List.length_drop] at hlt
                        rw [List.getElem?_append_right (by rw [List.length_drop]; omega), List.length_drop] at hc
                        obtain ⟨q1, q2⟩ := h2 _ c hc
                        rw [if_pos (by omega)]
                        refine ⟨q1, ?_⟩
                        have : mm.2.1 + off + i - (mm.2.1 + off + n * s + 0) = i - (cs.length - off) := by omega
                        rw [this]
                        exact q2.mono ex'
                  obtain ⟨s2, e2⟩ := hpush
                  have hnx : X.nx = cw.next := hS.nx
                  refine ⟨_, w', _, hF.room mm.1 (mm.2.1 + off) n cap w' hroom t1, s2, ek.trans e2, .ref (by show (cw.kill b).next < X.nx + 1; rw [hnx]; exact Nat.lt_succ_self _) hroom fun m' hm' => ?_⟩
                  have : (if cw.next = X.nx then some (mm.1, mm.2.1 + off, cap * s) else if cw.next = b then none else X.M cw.next) = some m' := hm'
                  rw [if_pos hnx.symm] at this
                  cases this
                  exact ⟨rfl, by show 0 + cap * s = cap * s; omega⟩
                · obtain ⟨_, hmm2, hrow⟩ := hS.rowAt hg
                  rw [hmm] at hmm2; cases hmm2
                  have hlen : ((cs.drop off).take (n * s)).length = n * s := by rw [List.length_take, List.length_drop]; omega
                  obtain ⟨vs, q1, q2, q3⟩ := (hrow.sub off (n * s)).vals' (P := P)
                  have htk : (cs.drop off).take (n * s) = cs.drop off := List.take_of_length_le (by rw [List.length_drop]; omega)
                  obtain ⟨nc, rest, g1, g2, g3⟩ := hF.grow (some ⟨mm.1, mm.2.1 + off, none⟩) n cap vs (by simp only [Builtin.firstCells]; rw [hlen] at q2 q1; rw [q2 w.drew rfl _ (Nat.le_refl _), List.take_of_length_le (by omega)]) (by omega) hlim (by omega)
                  rw [htk] at q1 q3
                  obtain ⟨X', s3, e3, hv⟩ := grown_ok sk (e := e) q1 hy (fun i c hc => ⟨(q3 i c hc).1, (q3 i c hc).2.mono ek⟩) (fun i c hc => ⟨(h2 i c hc).1, (h2 i c hc).2.mono ek⟩) g1 g2
                  exact ⟨_, _, X', g3, s3, ek.trans e3, hv⟩
              · cases h
        · cases h
  | _ => simp [appV] at h

end Go.Cs
