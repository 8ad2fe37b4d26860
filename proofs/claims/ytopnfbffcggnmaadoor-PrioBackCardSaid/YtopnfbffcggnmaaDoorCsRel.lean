/- How the canonical machine's values and worlds stand to Go's. -/
import Derived.Test.YtopnfbffcggnmaaDoorCsRes
import Derived.Below
namespace Go.Cs
open Go.RowKit (Below)

/-- M: where a canonical block lies (block, place, how many cells from there may be used); I: cells that nobody writes any more; nx: the canonical blocks' count. -/
structure Cx where
  M : Nat → Option (Nat × Nat × Nat)
  I : Nat → Nat → Prop
  nx : Nat

def cellD (w : World) (r o : Nat) : Value := (w.cell? ⟨r, o, none⟩).getD undef

section
variable (fid : FuncId → Option Nat)

inductive VR (X : Cx) (w : World) : CV → Value → Prop where
  | int (k : IntKind) (n : Int) : VR X w (.int k n) (.int k n)
  | bool (b : Bool) : VR X w (.bool b) (.bool b)
  | str (s : ByteArray) : VR X w (.str s.data.toList) (.string s)
  | nilp : VR X w .nilp (.pointer none)
  | nils : VR X w .nils (.slice none 0 0)
  | nilm : VR X w .nilm (.map none)
  | nilf : VR X w .nilf .nilFunc
  | nili : VR X w .nili .nilIface
  | agg {cs : List CV} {rcs : Array Value} : rcs.size = cs.length → (∀ (i : Nat) (c : CV), cs[i]? = some c → c.one = true) →
      (∀ (i : Nat) (c : CV), cs[i]? = some c → VR X w c (rcs.getD i undef)) → VR X w (.agg cs) (.agg rcs)
  | tup {cs : List CV} {rcs : Array Value} : rcs.size = cs.length →
      (∀ (i : Nat) (c : CV), cs[i]? = some c → VR X w c (rcs.getD i undef)) → VR X w (.tup cs) (.tuple rcs)
  | ptr {b off : Nat} {a : Addr} : b < X.nx → (∀ m, X.M b = some m → a = ⟨m.1, m.2.1 + off, none⟩) → VR X w (.ptr b off) (.pointer (some a))
  | row {cs : List CV} {off r o : Nat} : (∀ (i : Nat) (c : CV), cs[i]? = some c → c.one = true ∧ X.I r (o + i) ∧ (w.cell? ⟨r, o + i, none⟩).isSome) →
      (∀ (i : Nat) (c : CV), cs[i]? = some c → VR X w c (cellD w r (o + i))) → VR X w (.row cs off) (.pointer (some ⟨r, o + off, none⟩))
  | vec {cs : List CV} {n cap r o : Nat} {clip : Bool} : n ≤ cap → (clip = true → cap = n) →
      (∀ (i : Nat) (c : CV), cs[i]? = some c → c.one = true ∧ X.I r (o + i) ∧ (w.cell? ⟨r, o + i, none⟩).isSome) →
      (∀ (i : Nat) (c : CV), cs[i]? = some c → VR X w c (cellD w r (o + i))) → VR X w (.vec cs n clip) (.slice (some ⟨r, o, none⟩) n cap)
  | ref {b off n sz cap : Nat} {a : Addr} : b < X.nx → n ≤ cap →
      (∀ m, X.M b = some m → a = ⟨m.1, m.2.1 + off, none⟩ ∧ off + cap * sz = m.2.2) → VR X w (.ref b off n sz) (.slice (some a) n cap)
  | map {b r : Nat} : b < X.nx → (∀ m, X.M b = some m → r = m.1) → VR X w (.map b) (.map (some r))
  | fn {f g : Nat} {f1 c1 : List CV} {f2 c2 : Array Value} : fid f = some g → f2.size = f1.length → c2.size = c1.length →
      (∀ (i : Nat) (c : CV), f1[i]? = some c → VR X w c (f2.getD i undef)) →
      (∀ (i : Nat) (c : CV), c1[i]? = some c → VR X w c (c2.getD i undef)) → VR X w (.fn g f1 c1) (.func (.func f) f2 c2)
  | ifc {t : Nat} {v : CV} {u : Value} : VR X w v u → VR X w (.ifc t v) (.iface t u)

structure Ext (X : Cx) (w : World) (X' : Cx) (w' : World) : Prop where
  nx : X.nx ≤ X'.nx
  m : ∀ b m, b < X.nx → X'.M b = some m → X.M b = some m
  i : ∀ r o, X.I r o → X'.I r o
  c : ∀ r o, X.I r o → w'.cell? ⟨r, o, none⟩ = w.cell? ⟨r, o, none⟩

theorem Ext.refl (X : Cx) (w : World) : Ext X w X w := ⟨Nat.le_refl _, fun _ _ _ h => h, fun _ _ h => h, fun _ _ _ => rfl⟩

theorem Ext.trans {X X' X'' : Cx} {w w' w'' : World} (h : Ext X w X' w') (k : Ext X' w' X'' w'') : Ext X w X'' w'' :=
  ⟨Nat.le_trans h.nx k.nx, fun b m hb hm => h.m b m hb (k.m b m (Nat.lt_of_lt_of_le hb h.nx) hm), fun r o hi => k.i r o (h.i r o hi),
   fun r o hi => (k.c r o (h.i r o hi)).trans (h.c r o hi)⟩

variable {fid}

theorem VR.mono {X X' : Cx} {w w' : World} {c : CV} {v : Value} (h : VR fid X w c v) (e : Ext X w X' w') : VR fid X' w' c v := by
  induction h with
  | int k n => exact .int k n
  | bool b => exact .bool b
  | str s => exact .str s
  | nilp => exact .nilp
  | nils => exact .nils
  | nilm => exact .nilm
  | nilf => exact .nilf
  | nili => exact .nili
  | agg hl h1 _ ih => exact .agg hl h1 fun i c hc => ih i c hc
  | tup hl _ ih => exact .tup hl fun i c hc => ih i c hc
  | ptr hb hm => exact .ptr (Nat.lt_of_lt_of_le hb e.nx) fun m h => hm m (e.m _ m hb h)
  | row h1 _ ih =>
    refine .row (fun i c hc => ?_) fun i c hc => ?_
    · obtain ⟨a, b, d⟩ := h1 i c hc
      exact ⟨a, e.i _ _ b, by rw [e.c _ _ b]; exact d⟩
    · have := ih i c hc
      unfold cellD at *
      rw [e.c _ _ (h1 i c hc).2.1]; exact this
  | vec hn hcl h1 _ ih =>
    refine .vec hn hcl (fun i c hc => ?_) fun i c hc => ?_
    · obtain ⟨a, b, d⟩ := h1 i c hc
      exact ⟨a, e.i _ _ b, by rw [e.c _ _ b]; exact d⟩
    · have := ih i c hc
      unfold cellD at *
      rw [e.c _ _ (h1 i c hc).2.1]; exact this
  | ref hb hn hm => exact .ref (Nat.lt_of_lt_of_le hb e.nx) hn fun m h => hm m (e.m _ m hb h)
  | map hb hm => exact .map (Nat.lt_of_lt_of_le hb e.nx) fun m h => hm m (e.m _ m hb h)
  | fn hf h1 h2 _ _ ih1 ih2 => exact .fn hf h1 h2 (fun i c hc => ih1 i c hc) (fun i c hc => ih2 i c hc)
  | ifc _ ih => exact .ifc ih

/-! ## What a canonical value tells of Go's -/
section inv
variable {X : Cx} {w : World} {v : Value}
theorem VR.int_inv {k : IntKind} {n : Int} (h : VR fid X w (.int k n) v) : v = .int k n := by cases h; rfl
theorem VR.bool_inv {b : Bool} (h : VR fid X w (.bool b) v) : v = .bool b := by cases h; rfl
theorem VR.str_inv {l : List UInt8} (h : VR fid X w (.str l) v) : v = .string ⟨l.toArray⟩ := by cases h with | str s => rfl
theorem VR.str' (l : List UInt8) : VR fid X w (.str l) (.string ⟨l.toArray⟩) := by
  have := VR.str (fid := fid) (X := X) (w := w) ⟨l.toArray⟩
  simpa using this
theorem VR.tup0_inv (h : VR fid X w (.tup []) v) : v = undef := by
  cases h with
  | tup hl _ =>
    have : (_ : Array Value) = #[] := Array.eq_empty_of_size_eq_zero (by simpa using hl)
    subst this; rfl
theorem VR.tup0 : VR fid X w (.tup []) undef := .tup rfl (by simp)
theorem VR.cells_size {c : CV} (h : VR fid X w c v) : v.cells.size = c.cells.length := by cases h <;> simp_all [Value.cells, CV.cells]
theorem VR.cells_at {c : CV} (h : VR fid X w c v) (i : Nat) (d : CV) (hd : c.cells[i]? = some d) : VR fid X w d (v.cells.getD i undef) := by
  have key : c.cells = [c] → v.cells = #[v] → VR fid X w d (v.cells.getD i undef) := by
    intro h1 h2
    rw [h1] at hd
    have hi : i = 0 := by
      rcases Nat.eq_zero_or_pos i with hz | hz
      · exact hz
      · rw [List.getElem?_eq_none (by simp; omega)] at hd; cases hd
    subst hi
    simp only [List.getElem?_cons_zero, Option.some.injEq] at hd
    subst hd
    rw [h2]; exact h
  cases h with
  | agg hl h1 h2 => exact h2 i d hd
  | _ => exact key rfl rfl
end inv
end
end Go.Cs
