/- The simulation relation between the canonical world and Go's, and how it is kept. -/
import Derived.Test.YtopnfbffcggnmaaDoorCsRel
namespace Go.Cs
open Go.RowKit (Below)

section
variable (fid : FuncId → Option Nat)

def OR (X : Cx) (w : World) : CO → Nat × Nat × Nat → Prop
  | .cells cs, m => ∃ (rcs : Array Value) (T : TypeId) (fr : Nat × Nat), w.heap[m.1]? = some (.cells rcs T fr) ∧ cs.length ≤ m.2.2 ∧ m.2.1 + m.2.2 ≤ rcs.size ∧
      (fr.2 ≤ fr.1 ∨ rcs.size ≤ fr.1) ∧ ∀ (i : Nat) (c : CV), cs[i]? = some c → c.one = true ∧ VR fid X w c (rcs.getD (m.2.1 + i) undef)
  | .map es clock, m => ∃ res : Array MapEntry, w.heap[m.1]? = some (.map res clock) ∧ res.size = es.length ∧
      ∀ (i : Nat) (e : CV × CV × Nat), es[i]? = some e → ∃ r, res[i]? = some r ∧ r.born = e.2.2 ∧ VR fid X w e.1 r.key ∧ VR fid X w e.2.1 r.val

structure Sim (N : Nat) (w0 : World) (X : Cx) (cw : CW) (w : World) : Prop where
  nx : X.nx = cw.next
  dom : ∀ b m, X.M b = some m → ∃ o, cw.get b = some o
  blk : ∀ b o, cw.get b = some o → b < X.nx ∧ ∃ m, X.M b = some m ∧ OR fid X w o m
  inj : ∀ b b' m m', X.M b = some m → X.M b' = some m' → m.1 = m'.1 → b = b'
  sep : ∀ b m, X.M b = some m → N ≤ m.1 ∧ ∀ o, ¬ X.I m.1 o
  old : ∀ r o, r < N → X.I r o
  lt : ∀ r o, X.I r o → r < w.heap.size
  below : Below N w0 w
  room : N ≤ w.heap.size
end

variable {fid : FuncId → Option Nat} {N : Nat} {w0 : World} {X : Cx} {cw : CW} {w w' : World}

theorem heap_lt {w : World} {r : Nat} {o : Obj} (h : w.heap[r]? = some o) : r < w.heap.size := by
  rcases Nat.lt_or_ge r w.heap.size with h' | h'
  · exact h'
  · rw [Array.getElem?_eq_none h'] at h; cases h

theorem OR.at {o : CO} {m : Nat × Nat × Nat} (h : OR fid X w o m) : m.1 < w.heap.size := by
  cases o with
  | cells cs => obtain ⟨_, _, _, h, _⟩ := h; exact heap_lt h
  | map es c => obtain ⟨_, h, _⟩ := h; exact heap_lt h

theorem OR.mono {X' : Cx} {o : CO} {m : Nat × Nat × Nat} (h : OR fid X w o m) (e : Ext X w X' w') (hw : w'.heap[m.1]? = w.heap[m.1]?) : OR fid X' w' o m := by
  cases o with
  | cells cs =>
    obtain ⟨rcs, T, fr, h1, h2, h3, h4, h5⟩ := h
    exact ⟨rcs, T, fr, by rw [hw]; exact h1, h2, h3, h4, fun i c hc => ⟨(h5 i c hc).1, (h5 i c hc).2.mono e⟩⟩
  | map es c =>
    obtain ⟨res, h1, h2, h3⟩ := h
    refine ⟨res, by rw [hw]; exact h1, h2, fun i e' he => ?_⟩
    obtain ⟨r, a, b, v, u⟩ := h3 i e' he
    exact ⟨r, a, b, v.mono e, u.mono e⟩

theorem Sim.M_lt (h : Sim fid N w0 X cw w) {b : Nat} {m : Nat × Nat × Nat} (hm : X.M b = some m) : b < X.nx ∧ m.1 < w.heap.size := by
  obtain ⟨o, ho⟩ := h.dom b m hm
  obtain ⟨hb, m', hm', hor⟩ := h.blk b o ho
  rw [hm] at hm'; cases hm'
  exact ⟨hb, hor.at⟩

theorem Sim.get (h : Sim fid N w0 X cw w) {b : Nat} {o : CO} (ho : cw.get b = some o) : ∃ m, X.M b = some m ∧ OR fid X w o m := (h.blk b o ho).2

theorem cell_of_block {w w' : World} {r : Nat} (h : w'.heap[r]? = w.heap[r]?) (o : Nat) : w'.cell? ⟨r, o, none⟩ = w.cell? ⟨r, o, none⟩ := by
  simp only [World.cell?, h]

/-- All that there was is as it was. -/
theorem Sim.same (h : Sim fid N w0 X cw w) (hb : Below w.heap.size w w') : Sim fid N w0 X cw w' ∧ Ext X w X w' := by
  have e : Ext X w X w' := ⟨Nat.le_refl _, fun _ _ _ h => h, fun _ _ h => h, fun r o hi => cell_of_block (hb.block r (h.lt r o hi)) o⟩
  refine ⟨⟨h.nx, h.dom, fun b o ho => ?_, h.inj, h.sep, h.old, fun r o hi => Nat.lt_of_lt_of_le (h.lt r o hi) hb.size, h.below.trans (hb.mono h.room), Nat.le_trans h.room hb.size⟩, e⟩
  obtain ⟨hlt, m, hm, hor⟩ := h.blk b o ho
  exact ⟨hlt, m, hm, hor.mono e (hb.block _ hor.at)⟩

theorem below_drew (w : World) : Below w.heap.size w { w with drawn := w.drawn + 1 } := ⟨rfl, rfl, rfl, Nat.le_refl _, fun _ _ => rfl⟩

/-- A new row that nobody will write. -/
theorem Sim.imm (h : Sim fid N w0 X cw w) (o : Obj) :
    Sim fid N w0 { X with I := fun r i => X.I r i ∨ r = w.heap.size } cw (w.alloc o) ∧ Ext X w { X with I := fun r i => X.I r i ∨ r = w.heap.size } (w.alloc o) := by
  have hb : Below w.heap.size w (w.alloc o) := (Below.refl _ _).alloc (Nat.le_refl _) o
  have e : Ext X w { X with I := fun r i => X.I r i ∨ r = w.heap.size } (w.alloc o) :=
    ⟨Nat.le_refl _, fun _ _ _ h => h, fun _ _ h => .inl h, fun r o hi => cell_of_block (hb.block r (h.lt r o hi)) o⟩
  refine ⟨⟨h.nx, h.dom, fun b o ho => ?_, h.inj, fun b m hm => ?_, fun r o hr => .inl (h.old r o hr), fun r i hi => ?_, h.below.trans (hb.mono h.room), Nat.le_trans h.room hb.size⟩, e⟩
  · obtain ⟨hlt, m, hm, hor⟩ := h.blk b o ho
    exact ⟨hlt, m, hm, hor.mono e (hb.block _ hor.at)⟩
  · refine ⟨(h.sep b m hm).1, fun o' hi => ?_⟩
    rcases hi with hi | hi
    · exact (h.sep b m hm).2 o' hi
    · have := (h.M_lt hm).2; omega
  · have hs : (w.alloc o).heap.size = w.heap.size + 1 := Array.size_push ..
    rcases hi with hi | hi
    · have := h.lt r i hi; omega
    · omega

/-- A new canonical block, over a real one that no other has. -/
theorem Sim.pushG (h : Sim fid N w0 X cw w) {rb base e : Nat} {o : CO} (hN : N ≤ rb) (hI : ∀ i, ¬ X.I rb i) (hM : ∀ b m, X.M b = some m → m.1 ≠ rb)
    (hw : ∀ r, r ≠ rb → r < w.heap.size → w'.heap[r]? = w.heap[r]?) (hs : w.heap.size ≤ w'.heap.size) (hos : w'.os = w.os) (ht : w'.tape = w.tape) (hou : w'.output = w.output)
    (hor : Ext X w { X with M := fun b => if b = X.nx then some (rb, base, e) else X.M b, nx := X.nx + 1 } w' →
      OR fid { X with M := fun b => if b = X.nx then some (rb, base, e) else X.M b, nx := X.nx + 1 } w' o (rb, base, e)) :
    Sim fid N w0 { X with M := fun b => if b = X.nx then some (rb, base, e) else X.M b, nx := X.nx + 1 } (cw.push o) w' ∧
    Ext X w { X with M := fun b => if b = X.nx then some (rb, base, e) else X.M b, nx := X.nx + 1 } w' := by
  have ex : Ext X w { X with M := fun b => if b = X.nx then some (rb, base, e) else X.M b, nx := X.nx + 1 } w' := by
    refine ⟨Nat.le_succ _, fun b m hb hm => ?_, fun _ _ h => h, fun r i hi => cell_of_block (hw r (fun e => hI i (e ▸ hi)) (h.lt r i hi)) i⟩
    simp only at hm
    rwa [if_neg (by omega)] at hm
  have horr := hor ex
  refine ⟨⟨?_, ?_, ?_, ?_, ?_, h.old, fun r i hi => Nat.lt_of_lt_of_le (h.lt r i hi) hs, ?_, Nat.le_trans h.room hs⟩, ex⟩
  · simp [CW.push, h.nx]
  · intro b m hm
    simp only [CW.push] at hm ⊢
    by_cases hb : b = X.nx
    · exact ⟨o, by rw [if_pos (hb.trans h.nx)]⟩
    · rw [if_neg hb] at hm
      obtain ⟨o', ho'⟩ := h.dom b m hm
      exact ⟨o', by rw [if_neg (by rw [← h.nx]; exact hb)]; exact ho'⟩
  · intro b o' ho'
    simp only [CW.push] at ho' ⊢
    by_cases hb : b = X.nx
    · rw [if_pos (hb.trans h.nx)] at ho'
      cases ho'
      exact ⟨by omega, (rb, base, e), if_pos hb, horr⟩
    · rw [if_neg (by rw [← h.nx]; exact hb)] at ho'
      obtain ⟨hlt, m, hm, hor'⟩ := h.blk b o' ho'
      exact ⟨by omega, m, by rw [if_neg hb]; exact hm, hor'.mono ex (hw _ (hM b m hm) hor'.at)⟩
  · intro b b' m m' hm hm' he
    simp only at hm hm'
    by_cases hb : b = X.nx <;> by_cases hb' : b' = X.nx
    · omega
    · rw [if_pos hb] at hm; rw [if_neg hb'] at hm'; cases hm
      exact absurd he.symm (hM b' m' hm')
    · rw [if_neg hb] at hm; rw [if_pos hb'] at hm'; cases hm'
      exact absurd he (hM b m hm)
    · rw [if_neg hb] at hm; rw [if_neg hb'] at hm'
      exact h.inj b b' m m' hm hm' he
  · intro b m hm
    simp only at hm
    by_cases hb : b = X.nx
    · rw [if_pos hb] at hm; cases hm; exact ⟨hN, hI⟩
    · rw [if_neg hb] at hm; exact h.sep b m hm
  · exact h.below.trans ⟨hos, ht, hou, by omega, fun k hk => hw k (by omega) (Nat.lt_of_lt_of_le hk h.room)⟩

/-- A new block that the call may write. -/
theorem Sim.mut (h : Sim fid N w0 X cw w) {o : CO} {ob : Obj} {base e : Nat}
    (hor : Ext X w { X with M := fun b => if b = X.nx then some (w.heap.size, base, e) else X.M b, nx := X.nx + 1 } (w.alloc ob) →
      OR fid { X with M := fun b => if b = X.nx then some (w.heap.size, base, e) else X.M b, nx := X.nx + 1 } (w.alloc ob) o (w.heap.size, base, e)) :
    Sim fid N w0 { X with M := fun b => if b = X.nx then some (w.heap.size, base, e) else X.M b, nx := X.nx + 1 } (cw.push o) (w.alloc ob) ∧
    Ext X w { X with M := fun b => if b = X.nx then some (w.heap.size, base, e) else X.M b, nx := X.nx + 1 } (w.alloc ob) := by
  refine h.pushG h.room (fun i hi => ?_) (fun b m hm => ?_) (fun r _ hr => Below.heap_alloc w ob r hr) (by show _ ≤ (w.heap.push ob).size; simp) rfl rfl rfl hor
  · have := h.lt _ i hi; omega
  · have := (h.M_lt hm).2; omega

/-- One block is written. -/
structure Upd (w : World) (r : Nat) (o : Obj) (w' : World) : Prop where
  os : w'.os = w.os
  tape : w'.tape = w.tape
  output : w'.output = w.output
  size : w'.heap.size = w.heap.size
  here : w'.heap[r]? = some o
  there : ∀ k, k ≠ r → w'.heap[k]? = w.heap[k]?

theorem Sim.upd_ext (h : Sim fid N w0 X cw w) {b : Nat} {m : Nat × Nat × Nat} {ob : Obj} (hm : X.M b = some m) (hu : Upd w m.1 ob w') : Ext X w X w' :=
  ⟨Nat.le_refl _, fun _ _ _ h => h, fun _ _ h => h, fun r i hi => cell_of_block (hu.there r fun e => (h.sep b m hm).2 i (e ▸ hi)) i⟩

theorem Sim.upd (h : Sim fid N w0 X cw w) {b : Nat} {m : Nat × Nat × Nat} {ob : Obj} {o : CO} (hm : X.M b = some m) (hu : Upd w m.1 ob w')
    (hor : OR fid X w' o m) : Sim fid N w0 X (cw.set b o) w' ∧ Ext X w X w' := by
  have ex := h.upd_ext hm hu
  have hbx := (h.M_lt hm).1
  refine ⟨⟨h.nx, ?_, ?_, h.inj, h.sep, h.old, fun r i hi => by rw [hu.size]; exact h.lt r i hi, ?_, by rw [hu.size]; exact h.room⟩, ex⟩
  · intro c m' hm'
    simp only [CW.set]
    by_cases hc : c = b
    · exact ⟨o, if_pos hc⟩
    · obtain ⟨o', ho'⟩ := h.dom c m' hm'
      exact ⟨o', by rw [if_neg hc]; exact ho'⟩
  · intro c o' ho'
    simp only [CW.set] at ho'
    by_cases hc : c = b
    · rw [if_pos hc] at ho'; cases ho'; subst hc
      exact ⟨hbx, m, hm, hor⟩
    · rw [if_neg hc] at ho'
      obtain ⟨hlt, m', hm', hor'⟩ := h.blk c o' ho'
      exact ⟨hlt, m', hm', hor'.mono ex (hu.there _ fun e => hc (h.inj c b m' m hm' hm e))⟩
  · exact h.below.trans ⟨hu.os, hu.tape, hu.output, by rw [hu.size]; exact Nat.le_refl _, fun k hk => hu.there k (by have := (h.sep b m hm).1; omega)⟩

/-- A canonical block is given up. -/
theorem Sim.kill (h : Sim fid N w0 X cw w) (b : Nat) :
    Sim fid N w0 { X with M := fun c => if c = b then none else X.M c } (cw.kill b) w ∧ Ext X w { X with M := fun c => if c = b then none else X.M c } w := by
  have ex : Ext X w { X with M := fun c => if c = b then none else X.M c } w := by
    refine ⟨Nat.le_refl _, fun c m _ hm => ?_, fun _ _ h => h, fun _ _ _ => rfl⟩
    simp only at hm
    by_cases hc : c = b
    · rw [if_pos hc] at hm; cases hm
    · rwa [if_neg hc] at hm
  have hne : ∀ c m, (if c = b then none else X.M c) = some m → c ≠ b ∧ X.M c = some m := by
    intro c m hm
    by_cases hc : c = b
    · rw [if_pos hc] at hm; cases hm
    · rw [if_neg hc] at hm; exact ⟨hc, hm⟩
  refine ⟨⟨h.nx, ?_, ?_, ?_, ?_, h.old, h.lt, h.below, h.room⟩, ex⟩
  · intro c m hm
    obtain ⟨hc, hm⟩ := hne c m hm
    obtain ⟨o, ho⟩ := h.dom c m hm
    exact ⟨o, by simp only [CW.kill]; rw [if_neg hc]; exact ho⟩
  · intro c o ho
    simp only [CW.kill] at ho
    by_cases hc : c = b
    · rw [if_pos hc] at ho; cases ho
    · rw [if_neg hc] at ho
      obtain ⟨hlt, m, hm, hor⟩ := h.blk c o ho
      exact ⟨hlt, m, by simp only; rw [if_neg hc]; exact hm, hor.mono ex rfl⟩
  · intro c c' m m' hm hm' he
    exact h.inj c c' m m' (hne c m hm).2 (hne c' m' hm').2 he
  · intro c m hm
    exact h.sep c m (hne c m hm).2

theorem getE {cs ds : List CV} (hl : cs.length = ds.length) {i : Nat} {d : CV} (hd : ds[i]? = some d) : ∃ c, cs[i]? = some c :=
  ⟨_, List.getElem?_eq_getElem (by have := (List.getElem?_eq_some_iff.1 hd).1; omega)⟩

/-- What a call made is told by value: its blocks become rows that nobody writes. -/
theorem frz_vr {base : Nat} (h : Sim fid N w0 X cw w) {c d : CV} (hf : Frz base cw c d) : ∀ {v : Value}, VR fid X w c v → base ≤ X.nx →
    VR fid { M := fun b => if b < base then X.M b else none, I := fun r i => X.I r i ∨ ∃ b m, base ≤ b ∧ X.M b = some m ∧ m.1 = r, nx := base } w d v := by
  induction hf with
  | int k n => intro v hv _; cases hv; exact .int k n
  | bool b => intro v hv _; cases hv; exact .bool b
  | str l => intro v hv _; cases hv; exact .str _
  | nilp => intro v hv _; cases hv; exact .nilp
  | nils => intro v hv _; cases hv; exact .nils
  | nilm => intro v hv _; cases hv; exact .nilm
  | nilf => intro v hv _; cases hv; exact .nilf
  | nili => intro v hv _; cases hv; exact .nili
  | agg hl hf ih =>
    intro v hv hb
    cases hv with
    | agg h1 h2 h3 =>
      refine .agg (by omega) (fun i d hd => ?_) fun i d hd => ?_
      · obtain ⟨c, hc⟩ := getE hl hd
        have h0 := h2 i c hc
        have := hf i c d hc hd
        cases this <;> simp_all [CV.one]
      · obtain ⟨c, hc⟩ := getE hl hd
        exact ih i c d hc hd (h3 i c hc) hb
  | tup hl hf ih =>
    intro v hv hb
    cases hv with
    | tup h1 h3 =>
      refine .tup (by omega) fun i d hd => ?_
      obtain ⟨c, hc⟩ := getE hl hd
      exact ih i c d hc hd (h3 i c hc) hb
  | ptr hlt =>
    intro v hv hb
    cases hv with
    | ptr h1 h2 =>
      refine .ptr hlt fun m hm => h2 m ?_
      simp only at hm
      rwa [if_pos hlt] at hm
  | map hlt =>
    intro v hv hb
    cases hv with
    | map h1 h2 =>
      refine .map hlt fun m hm => h2 m ?_
      simp only at hm
      rwa [if_pos hlt] at hm
  | vec hl hf ih =>
    intro v hv hb
    cases hv with
    | vec h0 hcl h1 h3 =>
      refine .vec h0 hcl (fun i d hd => ?_) fun i d hd => ?_
      · obtain ⟨c, hc⟩ := getE hl hd
        obtain ⟨x, y, z⟩ := h1 i c hc
        refine ⟨?_, .inl y, z⟩
        have := hf i c d hc hd
        cases this <;> simp_all [CV.one]
      · obtain ⟨c, hc⟩ := getE hl hd
        exact ih i c d hc hd (h3 i c hc) hb
  | keep hlt =>
    intro v hv hb
    cases hv with
    | ref h1 h2 h3 =>
      refine .ref hlt h2 fun m hm => h3 m ?_
      simp only at hm
      rwa [if_pos hlt] at hm
  | @ref b off n sz cs ds hbb hget hle hdl hf ih =>
    intro v hv hb
    cases hv with
    | @ref _ _ _ _ cap a h1 h2 h3 =>
      obtain ⟨m, hm, rcs, T, fr, g1, g2, g3, g4, g5⟩ := h.get hget
      obtain ⟨rfl, hcap⟩ := h3 m hm
      refine .vec h2 (by simp) (fun i d hd => ?_) fun i d hd => ?_
      all_goals
        have hi : i < n * sz := hdl ▸ (List.getElem?_eq_some_iff.1 hd).1
        obtain ⟨c, hc⟩ : ∃ c, cs[off + i]? = some c := ⟨_, List.getElem?_eq_getElem (by omega)⟩
        obtain ⟨k1, k2⟩ := g5 _ c hc
        have hcell : w.cell? ⟨m.1, m.2.1 + off + i, none⟩ = some (rcs.getD (m.2.1 + (off + i)) undef) := by
          have hlt : m.2.1 + off + i < rcs.size := by omega
          simp only [World.cell?, g1, Option.isSome_none, Bool.false_eq_true, if_false]
          rw [show m.2.1 + (off + i) = m.2.1 + off + i by omega]
          simp [hlt]
      · refine ⟨?_, .inr ⟨b, m, hbb, hm, rfl⟩, by rw [hcell]; rfl⟩
        have := hf i c d hi hc hd
        cases this <;> simp_all [CV.one]
      · unfold cellD
        rw [hcell]
        exact ih i c d hi hc hd k2 hb
  | fn hl1 hl2 hf1 hf2 ih1 ih2 =>
    intro v hv hb
    cases hv with
    | fn h0 h1 h2 h3 h4 =>
      refine .fn h0 (by omega) (by omega) (fun i d hd => ?_) fun i d hd => ?_
      · obtain ⟨c, hc⟩ := getE hl1 hd
        exact ih1 i c d hc hd (h3 i c hc) hb
      · obtain ⟨c, hc⟩ := getE hl2 hd
        exact ih2 i c d hc hd (h4 i c hc) hb
  | ifc _ ih =>
    intro v hv hb
    cases hv with
    | ifc h1 => exact .ifc (ih h1 hb)

end Go.Cs
