/- The operations, one by one: memory. -/
import Derived.Test.YtopnfbffcggnmaaDoorCsEq
import Derived.Laws.Cells
import Derived.ChangeKeysEq
namespace Go.Cs
open Go.RowKit (Below)
variable {P : Program} {fid : FuncId → Option Nat} {N : Nat} {w0 : World} {X : Cx} {cw : CW} {w : World} {ρ : Env} {a : Act}

theorem add_none (r o n : Nat) : (Addr.mk r o none).add n = ⟨r, o + n, none⟩ := by
  unfold Addr.add
  split
  · rename_i h; subst h; rfl
  · rfl

theorem one_vr {c : CV} {v : Value} (h : VR fid X w c v) (h1 : c.one = true) : v.oneCell' = true := by
  cases h <;> first | rfl | (simp [CV.one] at h1)

/-- A row of cells that reads as canonical ones. -/
def RowAt (fid : FuncId → Option Nat) (X : Cx) (w : World) (r o : Nat) (cs : List CV) : Prop :=
  ∀ (i : Nat) (c : CV), cs[i]? = some c → c.one = true ∧ ∃ v, w.cell? ⟨r, o + i, none⟩ = some v ∧ VR fid X w c v

theorem RowAt.sub {r o : Nat} {cs : List CV} (h : RowAt fid X w r o cs) (off n : Nat) : RowAt fid X w r (o + off) ((cs.drop off).take n) := by
  intro i c hc
  rw [List.getElem?_take] at hc
  split at hc
  · rw [List.getElem?_drop] at hc
    rw [Nat.add_assoc]
    exact h _ c hc
  · cases hc

theorem Sim.rowAt (h : Sim fid N w0 X cw w) {b : Nat} {cs : List CV} (hg : cw.get b = some (.cells cs)) :
    ∃ m, X.M b = some m ∧ RowAt fid X w m.1 m.2.1 cs := by
  obtain ⟨m, hm, rcs, T, fr, h1, h2, h3, h4, h5⟩ := h.get hg
  refine ⟨m, hm, fun i c hc => ⟨(h5 i c hc).1, _, ?_, (h5 i c hc).2⟩⟩
  have hi : i < cs.length := (List.getElem?_eq_some_iff.1 hc).1
  have hlt : m.2.1 + i < rcs.size := by omega
  simp only [World.cell?, h1, Option.isSome_none, Bool.false_eq_true, if_false]
  simp [hlt]

theorem VR.row_inv {cs : List CV} {off : Nat} {v : Value} (h : VR fid X w (.row cs off) v) :
    ∃ r o, v = .pointer (some ⟨r, o + off, none⟩) ∧ RowAt fid X w r o cs ∧ ∀ (i : Nat) (c : CV), cs[i]? = some c → X.I r (o + i) := by
  cases h with
  | @row _ _ r o h1 h2 =>
    refine ⟨r, o, rfl, fun i c hc => ⟨(h1 i c hc).1, cellD w r (o + i), ?_, h2 i c hc⟩, fun i c hc => (h1 i c hc).2.1⟩
    have := (h1 i c hc).2.2
    unfold cellD
    cases hh : w.cell? ⟨r, o + i, none⟩ with
    | none => rw [hh] at this; cases this
    | some v => rfl

theorem VR.vec_inv {cs : List CV} {n : Nat} {clip : Bool} {v : Value} (h : VR fid X w (.vec cs n clip) v) :
    ∃ r o cap, v = .slice (some ⟨r, o, none⟩) n cap ∧ n ≤ cap ∧ (clip = true → cap = n) ∧ RowAt fid X w r o cs ∧ ∀ (i : Nat) (c : CV), cs[i]? = some c → X.I r (o + i) := by
  cases h with
  | @vec _ _ cap r o _ h0 hc h1 h2 =>
    refine ⟨r, o, cap, rfl, h0, hc, fun i c hc => ⟨(h1 i c hc).1, cellD w r (o + i), ?_, h2 i c hc⟩, fun i c hc => (h1 i c hc).2.1⟩
    have := (h1 i c hc).2.2
    unfold cellD
    cases hh : w.cell? ⟨r, o + i, none⟩ with
    | none => rw [hh] at this; cases this
    | some v => rfl

theorem RowAt.row {r o : Nat} {cs : List CV} (h : RowAt fid X w r o cs) (hI : ∀ (i : Nat) (c : CV), cs[i]? = some c → X.I r (o + i)) (off : Nat) :
    VR fid X w (.row cs off) (.pointer (some ⟨r, o + off, none⟩)) := by
  refine .row (fun i c hc => ⟨(h i c hc).1, hI i c hc, ?_⟩) fun i c hc => ?_
  · obtain ⟨_, v, hv, _⟩ := h i c hc; rw [hv]; rfl
  · obtain ⟨_, v, hv, hr⟩ := h i c hc; unfold cellD; rw [hv]; exact hr

theorem RowAt.vec {r o : Nat} {cs : List CV} (h : RowAt fid X w r o cs) (hI : ∀ (i : Nat) (c : CV), cs[i]? = some c → X.I r (o + i)) {n cap : Nat} {clip : Bool}
    (hn : n ≤ cap) (hc : clip = true → cap = n) : VR fid X w (.vec cs n clip) (.slice (some ⟨r, o, none⟩) n cap) := by
  refine .vec hn hc (fun i c hc => ⟨(h i c hc).1, hI i c hc, ?_⟩) fun i c hc => ?_
  · obtain ⟨_, v, hv, _⟩ := h i c hc; rw [hv]; rfl
  · obtain ⟨_, v, hv, hr⟩ := h i c hc; unfold cellD; rw [hv]; exact hr

/-- The values of a row. -/
theorem RowAt.vals {r o : Nat} {cs : List CV} (h : RowAt fid X w r o cs) : ∃ vs : List Value, vs.length = cs.length ∧
    (∀ (i : Nat) (v : Value), vs[i]? = some v → w.cell? ⟨r, o + i, none⟩ = some v) ∧ ∀ (i : Nat) (c : CV), cs[i]? = some c → c.one = true ∧ VR fid X w c (vs[i]?.getD undef) := by
  refine ⟨(List.range cs.length).map fun i => cellD w r (o + i), by simp, fun i v hv => ?_, fun i c hc => ?_⟩
  · simp only [List.getElem?_map, Option.map_eq_some_iff] at hv
    obtain ⟨j, hj, rfl⟩ := hv
    have hlt : i < cs.length := by
      have := (List.getElem?_eq_some_iff.1 hj).1
      simpa using this
    have : j = i := by simpa [List.getElem?_range hlt] using hj.symm
    subst this
    obtain ⟨_, v, hv, _⟩ := h j _ (List.getElem?_eq_getElem hlt)
    unfold cellD; rw [hv]; rfl
  · have hlt : i < cs.length := (List.getElem?_eq_some_iff.1 hc).1
    obtain ⟨h1, v, hv, hr⟩ := h i c hc
    refine ⟨h1, ?_⟩
    simp only [List.getElem?_map, List.getElem?_range hlt, Option.map_some, Option.getD_some]
    unfold cellD; rw [hv]; exact hr

theorem loadCells_run {r o : Nat} {vs : List Value} (h : ∀ (i : Nat) (v : Value), vs[i]? = some v → w.cell? ⟨r, o + i, none⟩ = some v) :
    (loadCells ⟨r, o, none⟩ vs.length).run P w = .ok vs.toArray w :=
  run_loadCells_list w ⟨r, o, none⟩ vs fun j v hj => by rw [add_none]; exact h j v hj

theorem tyOf_spec {t : TypeId} {q : Bool × Nat} (h : tyOf P t = some q) : (isAgg t).run P w = .ok q.1 w ∧ (sizeOf t).run P w = .ok q.2 w ∧ szOf P t = some q.2 ∧ (q.1 = false → q.2 = 1) ∧
    ∃ d, P.underlying t = some d ∧ isAggD d = q.1 := by
  unfold tyOf at h
  split at h
  · rename_i d i hd hi
    split at h
    · rename_i hc
      cases h
      refine ⟨?_, ?_, by simp [szOf, hi], fun hf => ?_, d, hd, rfl⟩
      · simp only [isAgg, Sem.run_bind, run_underlying hd, Result.andThen_ok]
        cases d <;> rfl
      · simp [sizeOf, typeInfo, hi]
      · simp only [Bool.or_eq_true, beq_iff_eq] at hc
        rcases hc with hc | hc
        · rw [hc] at hf; cases hf
        · exact hc
    · cases h
  · cases h

theorem szOf_run {t : TypeId} {n : Nat} (h : szOf P t = some n) : (sizeOf t).run P w = .ok n w := by
  unfold szOf at h
  obtain ⟨i, hi, rfl⟩ := Option.map_eq_some_iff.1 h
  simp [sizeOf, typeInfo, hi]

theorem load_run {t : TypeId} {q : Bool × Nat} (hq : tyOf P t = some q) {r o off : Nat} {cs : List CV} {c : CV} (h : RowAt fid X w r o cs) (hl : ldc q.1 q.2 cs off = some c) :
    ∃ v, (loadVar t ⟨r, o + off, none⟩).run P w = .ok v w ∧ VR fid X w c v := by
  obtain ⟨h1, h2, _, _, _⟩ := tyOf_spec (w := w) hq
  unfold ldc at hl
  split at hl
  · rename_i ha
    split at hl
    · rename_i hle
      cases hl
      obtain ⟨vs, k1, k2, k3⟩ := (h.sub off q.2).vals
      have hlen : vs.length = q.2 := by rw [k1, List.length_take, List.length_drop]; omega
      refine ⟨.agg vs.toArray, ?_, ?_⟩
      · simp only [loadVar, Sem.run_bind, h1, ha, Result.andThen_ok, if_true, h2]
        rw [← hlen, loadCells_run k2]
        rfl
      · refine .agg (by simp [k1]) (fun i c hc => (k3 i c hc).1) fun i c hc => ?_
        have := (k3 i c hc).2
        simpa [Array.getD_eq_getD_getElem?] using this
    · cases hl
  · rename_i ha
    obtain ⟨_, v, hv, hr⟩ := h off c hl
    refine ⟨v, ?_, hr⟩
    simp only [loadVar, Sem.run_bind, h1, Result.andThen_ok, ha]
    simp [hv]

theorem storeCells_run {r : Nat} {T : TypeId} {fr : Nat × Nat} : ∀ (vs : List Value) (o i : Nat) (w : World) (rcs : Array Value), w.heap[r]? = some (.cells rcs T fr) →
    (fr.2 ≤ fr.1 ∨ rcs.size ≤ fr.1) → o + i + vs.length ≤ rcs.size → (∀ v ∈ vs, v.oneCell' = true) →
    ∃ w' rcs', (storeCells ⟨r, o, none⟩ vs i).run P w = .ok () w' ∧ Upd w r (.cells rcs' T fr) w' ∧ rcs'.size = rcs.size ∧
      ∀ j, rcs'[j]? = if o + i ≤ j ∧ j < o + i + vs.length then vs[j - (o + i)]? else rcs[j]?
  | [], o, i, w, rcs, h, _, _, _ => ⟨w, rcs, rfl, ⟨rfl, rfl, rfl, rfl, h, fun _ _ => rfl⟩, rfl, fun j => by
      rw [if_neg (by simp only [List.length_nil]; omega)]⟩
  | v :: vs, o, i, w, rcs, h, hfr, hle, h1 => by
    simp only [List.length_cons] at hle
    have hcell : w.cell? ⟨r, o + i, none⟩ = some (rcs[o + i]'(by omega)) := by
      simp only [World.cell?, h, Option.isSome_none, Bool.false_eq_true, if_false]
      simp
    have hfz : w.frozen? ⟨r, o + i, none⟩ = false := by
      simp only [World.frozen?, h]
      simp only [Bool.and_eq_false_iff, decide_eq_false_iff_not]
      omega
    have hheap : (w.setCell ⟨r, o + i, none⟩ v).heap[r]? = some (.cells (rcs.setIfInBounds (o + i) v) T fr) := by
      simp [World.setCell, Array.getElem?_modify, h]
    obtain ⟨w', rcs', k1, k2, k3, k4⟩ := storeCells_run vs o (i + 1) (w.setCell ⟨r, o + i, none⟩ v) _ hheap (by simpa using hfr) (by simp; omega) fun u hu => h1 u (by simp [hu])
    refine ⟨w', rcs', ?_, ?_, by rw [k3]; simp, fun j => ?_⟩
    · simp only [storeCells, Sem.run_bind, add_none]
      rw [run_store P w _ v .plain (h1 v (by simp))]
      simp only [hcell, hfz, Bool.false_eq_true, if_false, Result.andThen_ok]
      exact k1
    · refine ⟨k2.os, k2.tape, k2.output, ?_, k2.here, fun k hk => ?_⟩
      · rw [k2.size]; simp [World.setCell]
      · rw [k2.there k hk]; exact Below.heap_setCell w _ v k hk
    · rw [k4 j]
      simp only [List.length_cons]
      by_cases hj : j = o + i
      · subst hj
        rw [if_neg (by omega), if_pos (by omega), Array.getElem?_setIfInBounds_self_of_lt (by omega)]
        simp
      · by_cases hj2 : o + (i + 1) ≤ j ∧ j < o + (i + 1) + vs.length
        · rw [if_pos hj2, if_pos (by omega)]
          rw [show j - (o + i) = (j - (o + (i + 1))) + 1 by omega]
          simp
        · rw [if_neg hj2, if_neg (by omega)]
          rw [Array.getElem?_setIfInBounds_ne (by omega)]

theorem splice_at (cs vs : List CV) (off : Nat) (hle : off + vs.length ≤ cs.length) (i : Nat) : (splice cs off vs)[i]? = if off ≤ i ∧ i < off + vs.length then vs[i - off]? else cs[i]? := by
  unfold splice
  have h1 : (cs.take off).length = off := by rw [List.length_take]; omega
  by_cases h : i < off
  · rw [if_neg (by omega), List.append_assoc, List.getElem?_append_left (by omega), List.getElem?_take, if_pos h]
  · by_cases h2 : i < off + vs.length
    · rw [if_pos ⟨by omega, h2⟩, List.append_assoc, List.getElem?_append_right (by omega), h1, List.getElem?_append_left (by omega)]
    · rw [if_neg (by omega), List.getElem?_append_right (by simp only [List.length_append, h1]; omega), List.getElem?_drop]
      simp only [List.length_append, h1]
      congr 1
      omega

theorem splice_length (cs vs : List CV) (off : Nat) (hle : off + vs.length ≤ cs.length) : (splice cs off vs).length = cs.length := by
  simp [splice]; omega

/-- Values stored into a canonical block. -/
theorem store_sim (h : Sim fid N w0 X cw w) {b : Nat} {cs ds : List CV} {off : Nat} (hg : cw.get b = some (.cells cs)) (hle : off + ds.length ≤ cs.length) {vs : List Value}
    (hl : vs.length = ds.length) (hv : ∀ (i : Nat) (c : CV), ds[i]? = some c → c.one = true ∧ VR fid X w c (vs[i]?.getD undef)) :
    ∃ m w', X.M b = some m ∧ (storeCells ⟨m.1, m.2.1 + off, none⟩ vs 0).run P w = .ok () w' ∧ Sim fid N w0 X (cw.set b (.cells (splice cs off ds))) w' ∧ Ext X w X w' := by
  obtain ⟨m, hm, rcs, T, fr, h1, h2, h3, h4, h5⟩ := h.get hg
  have hone : ∀ v ∈ vs, v.oneCell' = true := by
    intro v hvm
    obtain ⟨i, hi, rfl⟩ := List.getElem_of_mem hvm
    obtain ⟨k1, k2⟩ := hv i _ (List.getElem?_eq_getElem (by omega))
    rw [List.getElem?_eq_getElem hi] at k2
    exact one_vr k2 k1
  obtain ⟨w', rcs', k1, k2, k3, k4⟩ := storeCells_run (P := P) vs (m.2.1 + off) 0 w rcs h1 h4 (by omega) hone
  have ex := h.upd_ext hm k2
  obtain ⟨s1, s2⟩ := h.upd (o := .cells (splice cs off ds)) hm k2 ⟨rcs', T, fr, k2.here, by rw [splice_length _ _ _ hle]; exact h2, by omega, by rw [k3]; exact h4, fun i c hc => by
    rw [splice_at _ _ _ hle] at hc
    split at hc
    · rename_i hi
      obtain ⟨q1, q2⟩ := hv _ c hc
      refine ⟨q1, ?_⟩
      have : rcs'.getD (m.2.1 + i) undef = vs[i - off]?.getD undef := by
        rw [Array.getD_eq_getD_getElem?, k4, if_pos (by omega)]
        rw [show m.2.1 + i - (m.2.1 + off + 0) = i - off by omega]
      rw [this]; exact q2.mono ex
    · rename_i hi
      obtain ⟨q1, q2⟩ := h5 i c hc
      refine ⟨q1, ?_⟩
      have : rcs'.getD (m.2.1 + i) undef = rcs.getD (m.2.1 + i) undef := by
        rw [Array.getD_eq_getD_getElem?, k4, if_neg (by omega), Array.getD_eq_getD_getElem?]
      rw [this]; exact q2.mono ex⟩
  exact ⟨m, w', hm, k1, s1, s2⟩

/-- A row that the call makes: cells told, and perhaps more behind them. -/
theorem new_imm (h : Sim fid N w0 X cw w) {cs : List CV} {rcs : Array Value} {T : TypeId} {fr : Nat × Nat} (hl : cs.length ≤ rcs.size)
    (hv : ∀ (i : Nat) (c : CV), cs[i]? = some c → c.one = true ∧ VR fid X w c (rcs.getD i undef)) {n cap : Nat} {clip : Bool} (hn : n ≤ cap) (hc : clip = true → cap = n) :
    ∃ X', Sim fid N w0 X' cw (w.alloc (.cells rcs T fr)) ∧ Ext X w X' (w.alloc (.cells rcs T fr)) ∧ VR fid X' (w.alloc (.cells rcs T fr)) (.vec cs n clip) (.slice (some ⟨w.heap.size, 0, none⟩) n cap) := by
  obtain ⟨s, e⟩ := h.imm (.cells rcs T fr)
  refine ⟨_, s, e, RowAt.vec (fun i c hc => ?_) (fun i c hc => Or.inr rfl) hn hc⟩
  obtain ⟨k1, k2⟩ := hv i c hc
  refine ⟨k1, rcs.getD i undef, ?_, k2.mono e⟩
  have hi : i < rcs.size := by have := (List.getElem?_eq_some_iff.1 hc).1; omega
  show (w.alloc (.cells rcs T fr)).cell? ⟨w.heap.size, 0 + i, none⟩ = _
  have : (w.heap.push (.cells rcs T fr))[w.heap.size]? = some (.cells rcs T fr) := by simp
  simp only [World.cell?, World.alloc, this, Option.isSome_none, Bool.false_eq_true, if_false]
  simp [hi]

theorem new_mut (h : Sim fid N w0 X cw w) {cs : List CV} {rcs : Array Value} {T : TypeId} {fr : Nat × Nat} (hl : cs.length ≤ rcs.size) (hf : fr.2 ≤ fr.1 ∨ rcs.size ≤ fr.1)
    (hv : ∀ (i : Nat) (c : CV), cs[i]? = some c → c.one = true ∧ VR fid X w c (rcs.getD i undef)) :
    ∃ X', Sim fid N w0 X' (cw.push (.cells cs)) (w.alloc (.cells rcs T fr)) ∧ Ext X w X' (w.alloc (.cells rcs T fr)) ∧
      X'.nx = cw.next + 1 ∧ X'.M cw.next = some (w.heap.size, 0, rcs.size) := by
  have := h.mut (o := .cells cs) (ob := .cells rcs T fr) (base := 0) (e := rcs.size) fun e =>
    ⟨rcs, T, fr, by show (w.heap.push _)[w.heap.size]? = _; simp, hl, by show 0 + rcs.size ≤ rcs.size; omega, hf, fun i c hc => ⟨(hv i c hc).1, by rw [Nat.zero_add]; exact (hv i c hc).2.mono e⟩⟩
  exact ⟨_, this.1, this.2, by simp [h.nx], by simp [h.nx]⟩

end Go.Cs
