/- The operations, one by one: literals, slices, appends. -/
import Derived.Test.YtopnfbffcggnmaaDoorCsOpB
import Derived.Laws.AppendOwn
namespace Go.Cs
open Go.RowKit (Below)
variable {P : Program} {fid : FuncId → Option Nat} {N : Nat} {w0 : World} {X : Cx} {cw : CW} {w : World} {ρ : Env} {a : Act}

/-- Canonical cells, and Go's, from a place on. -/
def CellsR (fid : FuncId → Option Nat) (X : Cx) (w : World) (cs : List CV) (rcs : Array Value) : Prop :=
  cs.length = rcs.size ∧ ∀ (i : Nat) (c : CV), cs[i]? = some c → c.one = true ∧ VR fid X w c (rcs.getD i undef)

theorem set_fold (off : Nat) : ∀ (vs : List Value) (j : Nat) (cells : Array Value), off + j + vs.length ≤ cells.size →
    ((vs.zipIdx j).foldl (fun cs (x : Value × Nat) => cs.setIfInBounds (off + x.2) x.1) cells).size = cells.size ∧
    ∀ k, ((vs.zipIdx j).foldl (fun cs (x : Value × Nat) => cs.setIfInBounds (off + x.2) x.1) cells)[k]? =
      if off + j ≤ k ∧ k < off + j + vs.length then vs[k - (off + j)]? else cells[k]?
  | [], j, cells, _ => ⟨rfl, fun k => by rw [if_neg (by simp only [List.length_nil]; omega)]; rfl⟩
  | v :: vs, j, cells, h => by
    simp only [List.length_cons] at h
    obtain ⟨h1, h2⟩ := set_fold off vs (j + 1) (cells.setIfInBounds (off + j) v) (by simp; omega)
    simp only [List.zipIdx_cons, List.foldl_cons]
    refine ⟨by rw [h1]; simp, fun k => ?_⟩
    rw [h2 k]
    simp only [List.length_cons]
    by_cases hk : k = off + j
    · subst hk
      rw [if_neg (by omega), if_pos (by omega), Array.getElem?_setIfInBounds_self_of_lt (by omega)]
      simp
    · by_cases hk2 : off + (j + 1) ≤ k ∧ k < off + (j + 1) + vs.length
      · rw [if_pos hk2, if_pos (by omega), show k - (off + j) = (k - (off + (j + 1))) + 1 by omega]
        simp
      · rw [if_neg hk2, if_neg (by omega), Array.getElem?_setIfInBounds_ne (by omega)]

theorem fill_run {place : Nat → Option (Nat × Nat)} (hE : EnvR fid X w ρ a) : ∀ (ps : List (Nat × Operand)) (l : List (Nat × Nat × RX)) (zs cs : List CV) (zarr : Array Value),
    parts fid place ps = some l → fillc (ev ρ) zs l = some cs → CellsR fid X w zs zarr →
    ∃ arr, Instr.fill place zarr (ps.map fun p => (p.1, a.eval p.2)) = some arr ∧ arr.size = zarr.size ∧ CellsR fid X w cs arr
  | [], l, zs, cs, zarr, hp, hf, hz => by
    cases hp; cases hf
    exact ⟨zarr, rfl, rfl, hz⟩
  | (i, x) :: r, l, zs, cs, zarr, hp, hf, hz => by
    simp only [parts, Option.bind_eq_some_iff] at hp
    obtain ⟨p, hpl, y, hy, l', hl', hp⟩ := hp
    cases hp
    obtain ⟨off, n⟩ := p
    simp only [fillc, Option.bind_eq_some_iff] at hf
    obtain ⟨v, hv, hf⟩ := hf
    split at hf
    · rename_i hc
      obtain ⟨hc1, hc2, hc3⟩ := hc
      have hvr := rx_vr hy hv hE
      have hsz := hvr.cells_size
      have hzl := hz.1
      have hle : off + (a.eval x).cells.toList.length ≤ zarr.size := by simp only [Array.length_toList]; omega
      obtain ⟨s1, s2⟩ := set_fold off (a.eval x).cells.toList 0 zarr (by omega)
      have hnew : CellsR fid X w (splice zs off v.cells) (((a.eval x).cells.toList.zipIdx 0).foldl (fun cs (x : Value × Nat) => cs.setIfInBounds (off + x.2) x.1) zarr) := by
        refine ⟨by rw [splice_length _ _ _ (by omega), s1]; exact hzl, fun j c hj => ?_⟩
        rw [splice_at _ _ _ (by omega)] at hj
        rw [Array.getD_eq_getD_getElem?, s2]
        simp only [Array.length_toList]
        split at hj
        · rename_i hin
          rw [if_pos (by omega)]
          refine ⟨(List.all_eq_true.1 hc3) c (List.mem_of_getElem? hj), ?_⟩
          have := hvr.cells_at _ c hj
          rw [Array.getD_eq_getD_getElem?] at this
          simpa using this
        · rename_i hin
          rw [if_neg (by omega), ← Array.getD_eq_getD_getElem?]
          exact hz.2 j c hj
      obtain ⟨arr, g1, g2, g3⟩ := fill_run hE r l' _ cs _ hl' hf hnew
      refine ⟨arr, ?_, by rw [g2]; exact s1, g3⟩
      simp only [List.map_cons, Instr.fill, hpl]
      have hcond : ((a.eval x).cells.size ≠ n || decide (off + (a.eval x).cells.size > zarr.size)) = false := by
        simp only [Bool.or_eq_false_iff, decide_eq_false_iff_not]
        omega
      simp only [Bool.or_eq_true, decide_eq_true_eq] at hcond ⊢
      rw [if_neg (by omega)]
      rw [← g1]
      congr 1
      rw [← Array.foldl_toList, Array.toList_zipIdx]
    · cases hf

theorem repl_at (n : Nat) (z : List CV) : ∀ (k : Nat), (repl n z)[k]? = if k < n * z.length then z[k % z.length]? else none := by
  unfold repl
  induction n with
  | zero => intro k; simp
  | succ n ih =>
    intro k
    simp only [List.replicate_succ, List.flatten_cons]
    by_cases hk : k < z.length
    · rw [List.getElem?_append_left hk, Nat.mod_eq_of_lt hk, if_pos (by rw [Nat.add_mul]; omega)]
    · rw [List.getElem?_append_right (by omega), ih]
      by_cases h2 : k - z.length < n * z.length
      · rw [if_pos h2, if_pos (by rw [Nat.add_mul]; omega), Nat.mod_eq_sub_mod (a := k) (b := z.length) (by omega)]
      · rw [if_neg h2, if_neg (by rw [Nat.add_mul]; omega)]

theorem repl_length (n : Nat) (z : List CV) : (repl n z).length = n * z.length := by simp [repl]

theorem zeroOf_spec {t : TypeId} {z : List CV} (h : zeroOf P t = some z) : ∃ i zv, P.info? t = some i ∧ i.zero = some zv ∧ zv.cells.size = i.size ∧ z.length = i.size ∧
    CellsR fid X w z zv.cells ∧ (zeroValue t).run P w = .ok zv w ∧ szOf P t = some i.size := by
  unfold zeroOf at h
  split at h
  · rename_i i hi
    split at h
    · rename_i zv hz
      split at h
      · rename_i hsz
        obtain ⟨h1, h2⟩ := cvAll_vr (fid := fid) (X := X) (w := w) h
        refine ⟨i, zv, hi, hz, hsz, by rw [h1]; simpa using hsz, ⟨by rw [h1]; simp, fun j c hj => ?_⟩, by simp [zeroValue, typeInfo, hi, hz], by simp [szOf, hi]⟩
        have := h2 j c hj
        simpa [Array.getD_eq_getD_getElem?] using this
      · cases h
    · cases h
  · cases h

theorem zeros_cells {z : List CV} {zs : Array Value} (h : CellsR fid X w z zs) (n : Nat) :
    CellsR fid X w (repl n z) ((Array.range (n * z.length)).map (zs[· % zs.size]!)) := by
  refine ⟨by rw [repl_length]; simp, fun i c hc => ?_⟩
  rw [repl_at] at hc
  split at hc
  · rename_i hi
    obtain ⟨k1, k2⟩ := h.2 _ c hc
    refine ⟨k1, ?_⟩
    have hlt : i % z.length < zs.size := by have := (List.getElem?_eq_some_iff.1 hc).1; rw [← h.1]; exact this
    have : ((Array.range (n * z.length)).map (zs[· % zs.size]!)).getD i undef = zs.getD (i % z.length) undef := by
      rw [Array.getD_eq_getD_getElem?, Array.getElem?_map, Array.getElem?_range, if_pos hi]
      simp only [Option.map_some, Option.getD_some, ← h.1]
      rw [Array.getD_eq_getD_getElem?, Array.getElem?_eq_getElem hlt]
      simp [hlt]
    rw [this]; exact k2
  · cases hc

/-- What an operation does. -/
def OpOk (fid : FuncId → Option Nat) (N : Nat) (w0 : World) (X : Cx) (P : Program) (s : Sem Next) (w : World) (c : CV) (cw' : CW) : Prop :=
  ∃ v w' X', (s.run P w = .ok (.value v) w' ∨ (s.run P w = .ok .skip w' ∧ v = undef)) ∧ Sim fid N w0 X' cw' w' ∧ Ext X w X' w' ∧ VR fid X' w' c v

theorem OpOk.val {s : Sem Value} {c : CV} {cw' : CW} {v : Value} {w' : World} {X' : Cx} (hr : s.run P w = .ok v w') (hS : Sim fid N w0 X' cw' w') (hX : Ext X w X' w')
    (hv : VR fid X' w' c v) : OpOk fid N w0 X P (do pure (.value (← s))) w c cw' :=
  ⟨v, w', X', .inl (by simp [hr]), hS, hX, hv⟩

theorem OpOk.pur {s : Sem Value} {c : CV} {v : Value} (hS : Sim fid N w0 X cw w) (hr : s.run P w = .ok v w) (hv : VR fid X w c v) :
    OpOk fid N w0 X P (do pure (.value (← s))) w c cw := OpOk.val hr hS (.refl X w) hv

theorem OpOk.unit {s : Sem Unit} {cw' : CW} {w' : World} {X' : Cx} (hr : s.run P w = .ok () w') (hS : Sim fid N w0 X' cw' w') (hX : Ext X w X' w') :
    OpOk fid N w0 X P (do s; pure .skip) w (.tup []) cw' :=
  ⟨undef, w', X', .inr ⟨by simp [hr], rfl⟩, hS, hX, .tup0⟩

theorem build_ok {t : TypeId} {ps : Array (Nat × Operand)} {z l} {fs : Array Field} {cs : List CV} (hz : zeroOf P t = some z) (ht : P.underlying t = some (.struct fs))
    (hp : parts fid (fieldsAt P fs) ps.toList = some l) (hall : fs.toList.all (fun f => (szOf P f.type).isSome) = true) (hE : EnvR fid X w ρ a) (hf : fillc (ev ρ) z l = some cs) :
    ∃ v, (Instr.build t (ps.map fun p => (p.1, a.eval p.2))).run P w = .ok v w ∧ VR fid X w (.agg cs) v := by
  obtain ⟨i, zv, hi, hzv, hsz, hzl, hzr, hrun, hso⟩ := zeroOf_spec (fid := fid) (X := X) (w := w) hz
  have hmap : (fs.mapM fun f => do pure (f.offset, ← sizeOf f.type) : Sem (Array (Nat × Nat))).run P w = .ok (fs.map fun f => (f.offset, P.cellsOf f.type)) w := by
    rw [Array.mapM_eq_mapM_toList]
    have key : ∀ l : List Field, l.all (fun f => (szOf P f.type).isSome) = true → (l.mapM (fun f => do pure (f.offset, ← sizeOf f.type)) : Sem (List (Nat × Nat))).run P w = .ok (l.map fun f => (f.offset, P.cellsOf f.type)) w := by
      intro l
      induction l with
      | nil => intro _; simp
      | cons f l ih =>
        intro h
        simp only [List.all_cons, Bool.and_eq_true] at h
        obtain ⟨n, hn⟩ := Option.isSome_iff_exists.1 h.1
        have hc : P.cellsOf f.type = n := by
          unfold szOf at hn
          simp [Program.cellsOf, hn]
        have hs := szOf_run (P := P) (w := w) hn
        simp only [List.mapM_cons, Sem.run_bind, hs, Result.andThen_ok, Sem.run_pure, ih h.2, List.map_cons, hc]
    rw [map_eq_pure_bind]
    simp only [Sem.run_bind, key _ hall, Result.andThen_ok, Sem.run_pure]
    rw [← List.map_toArray, Array.toArray_toList]
  have hpl : parts fid ((fs.map fun f => (f.offset, P.cellsOf f.type))[·]?) ps.toList = some l := by
    rw [← hp]
    clear hp hf
    congr 1
    funext k
    unfold fieldsAt
    cases hk : fs[k]? with
    | none => simp [hk]
    | some f =>
      have : (szOf P f.type).isSome := (List.all_eq_true.1 hall) f (by
        have := Array.mem_of_getElem? hk
        exact Array.mem_toList_iff.2 this)
      obtain ⟨n, hn⟩ := Option.isSome_iff_exists.1 this
      have hc : P.cellsOf f.type = n := by
        have h2 := hn
        unfold szOf at h2
        simp [Program.cellsOf, h2]
      simp [hk, hn, hc]
  obtain ⟨arr, g1, g2, g3⟩ := fill_run hE ps.toList l z cs zv.cells hpl hf hzr
  refine ⟨.agg arr, ?_, .agg g3.1.symm (fun i c hc => (g3.2 i c hc).1) fun i c hc => (g3.2 i c hc).2⟩
  simp only [Instr.build, Sem.run_bind, hrun, Result.andThen_ok, run_underlying ht, hmap]
  simp only [Array.toList_map]
  rw [g1]
  rfl

theorem build_arr {t e : TypeId} {len n : Nat} {ps : Array (Nat × Operand)} {z l} {cs : List CV} (hz : zeroOf P t = some z) (ht : P.underlying t = some (.array len e)) (hn : szOf P e = some n)
    (hp : parts fid (fun i => some (i * n, n)) ps.toList = some l) (hE : EnvR fid X w ρ a) (hf : fillc (ev ρ) z l = some cs) :
    ∃ v, (Instr.build t (ps.map fun p => (p.1, a.eval p.2))).run P w = .ok v w ∧ VR fid X w (.agg cs) v := by
  obtain ⟨i, zv, hi, hzv, hsz, hzl, hzr, hrun, hso⟩ := zeroOf_spec (fid := fid) (X := X) (w := w) hz
  obtain ⟨arr, g1, g2, g3⟩ := fill_run hE ps.toList l z cs zv.cells hp hf hzr
  refine ⟨.agg arr, ?_, .agg g3.1.symm (fun i c hc => (g3.2 i c hc).1) fun i c hc => (g3.2 i c hc).2⟩
  simp only [Instr.build, Sem.run_bind, hrun, Result.andThen_ok, run_underlying ht, szOf_run hn]
  simp only [Array.toList_map]
  rw [g1]
  rfl

theorem lit_run {t e : TypeId} {len n : Nat} {ps : Array (Nat × Operand)} {z l} {cs : List CV} (ht : P.underlying t = some (.slice e)) (hz : zeroOf P e = some z) (hn : szOf P e = some n)
    (hp : parts fid (fun i => some (i * n, n)) ps.toList = some l) (hno : ¬(n = 0 ∨ len * n > 2 ^ 24)) (hE : EnvR fid X w ρ a) (hf : fillc (ev ρ) (repl len z) l = some cs) :
    ∃ arr, (Instr.buildSlice t len (ps.map fun p => (p.1, a.eval p.2))).run P w = .ok (.slice (some ⟨w.heap.size, 0, none⟩) len len) (w.alloc (.cells arr e)) ∧ CellsR fid X w cs arr ∧ arr.size = len * n := by
  obtain ⟨i, zv, hi, hzv, hsz, hzl, hzr, hrun, hso⟩ := zeroOf_spec (fid := fid) (X := X) (w := w) hz
  have hin : i.size = n := by rw [hn] at hso; cases hso; rfl
  have hzz := zeros_cells hzr len
  rw [hzl, hin] at hzz
  obtain ⟨arr, g1, g2, g3⟩ := fill_run hE ps.toList l _ cs _ hp hf hzz
  have hsize : zv.cells.size = n := by omega
  have hbig : ¬ (len * n > 2 ^ 24) := fun h => hno (.inr h)
  by_cases h0 : len * n = 0
  · refine ⟨arr, ?_, g3, by rw [g2]; simp⟩
    simp only [Instr.buildSlice, Sem.run_bind, run_underlying ht, Result.andThen_ok, szOf_run hn]
    rw [if_neg hbig]
    simp only [Sem.run_pure, Result.andThen_ok, h0, if_true, Sem.run_bind]
    simp only [h0] at g1 ⊢
    simp only [Array.toList_map]
    have em : ∀ f : Nat → Value, (Array.range 0).map f = #[] := fun f => by rw [show Array.range 0 = #[] from rfl, Array.map_empty]
    rw [em] at g1 ⊢
    rw [g1]
    rfl
  · refine ⟨arr, ?_, g3, by rw [g2]; simp⟩
    simp only [Instr.buildSlice, Sem.run_bind, run_underlying ht, Result.andThen_ok, szOf_run hn]
    rw [if_neg hbig]
    simp only [Sem.run_pure, Result.andThen_ok, h0, if_false, Sem.run_bind, hrun]
    simp only [Array.toList_map]
    rw [g1]
    rfl

end Go.Cs
