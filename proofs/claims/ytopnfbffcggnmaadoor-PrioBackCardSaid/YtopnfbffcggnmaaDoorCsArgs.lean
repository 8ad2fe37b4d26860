/- Arguments that are plain data, read as canonical values. -/
import Derived.Test.YtopnfbffcggnmaaDoorCsLaw
import Derived.ChangeArms
import Derived.OpenShut
namespace Go.Cs
open Go.WideShapes
variable {H : Type} {enc : TypeId × Value → H} {P : Program} {fid : FuncId → Option Nat} {X : Cx} {W : World} {base : Nat} {spare : Nat → Bool} {held : Bool}

/-- What a value is made of. -/
inductive Ty where
  | int (k : IntKind)
  | bool
  | str
  | struct (ts : List Ty)
  | arr (n : Nat) (t : Ty)

mutual
/-- The cells of a value of a type. -/
def Ty.has : Ty → List CV → Prop
  | .int k, cs => ∃ n, cs = [.int k n] ∧ (Lit.int k n).wf = true
  | .bool, cs => ∃ b, cs = [.bool b]
  | .str, cs => ∃ l, cs = [.str l] ∧ l.length ≤ maxLen
  | .struct ts, cs => hasAll ts cs
  | .arr n t, cs => ∃ css : List (List CV), css.length = n ∧ cs = css.flatten ∧ ∀ c ∈ css, t.has c
def hasAll : List Ty → List CV → Prop
  | [], cs => cs = []
  | t :: ts, cs => ∃ a b, cs = a ++ b ∧ t.has a ∧ hasAll ts b
end

def schFields (P : Program) (s : TypeId → Option Ty) : List Field → Nat → Option (List Ty × Nat)
  | [], off => some ([], off)
  | f :: r, off => if f.offset = off then (s f.type).bind fun T => (schFields P s r (off + P.cellsOf f.type)).bind fun x => some (T :: x.1, x.2) else none

def sch (P : Program) : Nat → TypeId → Option Ty
  | 0, _ => none
  | d + 1, t => match P.underlying t with
    | some (.int k) => some (.int k)
    | some .bool => some .bool
    | some .string => some .str
    | some (.struct fs) => (schFields P (sch P d) fs.toList 0).bind fun x => if x.2 = P.cellsOf t then some (.struct x.1) else none
    | some (.array n e) => (sch P d e).bind fun T => if n * P.cellsOf e = P.cellsOf t then some (.arr n T) else none
    | _ => none

/-- Cells, and Go's. -/
def RowV (fid : FuncId → Option Nat) (X : Cx) (W : World) (ccs : List CV) (cs : List Value) : Prop :=
  ccs.length = cs.length ∧ ∀ (i : Nat) (c : CV), ccs[i]? = some c → c.one = true ∧ ∃ v, cs[i]? = some v ∧ VR fid X W c v

theorem RowV.nil : RowV fid X W [] [] := ⟨rfl, by simp⟩
theorem RowV.one {c : CV} {v : Value} (h1 : c.one = true) (h : VR fid X W c v) : RowV fid X W [c] [v] := by
  refine ⟨rfl, fun i d hd => ?_⟩
  match i with
  | 0 => cases hd; exact ⟨h1, v, rfl, h⟩
  | i + 1 => simp at hd
theorem RowV.append {a b : List CV} {x y : List Value} (h1 : RowV fid X W a x) (h2 : RowV fid X W b y) : RowV fid X W (a ++ b) (x ++ y) := by
  refine ⟨by simp [h1.1, h2.1], fun i c hc => ?_⟩
  rw [List.getElem?_append] at hc ⊢
  rw [← h1.1]
  by_cases hi : i < a.length
  · rw [if_pos hi] at hc ⊢
    exact h1.2 i c hc
  · rw [if_neg hi] at hc ⊢
    exact h2.2 _ c hc

theorem mapM_get {α β : Type} {f : α → Option β} : ∀ {l : List α} {r : List β}, l.mapM f = some r → ∀ x ∈ l, ∃ y, f x = some y
  | [], r, _, x, hx => by cases hx
  | a :: l, r, h, x, hx => by
    rw [List.mapM_cons] at h
    simp only [Option.bind_eq_bind, Option.pure_def, Option.bind_eq_some_iff] at h
    obtain ⟨b, hb, bs, hbs, _⟩ := h
    rcases List.mem_cons.1 hx with rfl | hx
    · exact ⟨b, hb⟩
    · exact mapM_get hbs x hx

theorem read_fields {s : TypeId → Option Ty} {cs : List Value}
    (go : ∀ t T cs', s t = some T → ∀ n y, DataW.trod enc P W base spare held n t cs' = some y → ∃ ccs, T.has ccs ∧ RowV fid X W ccs cs') (n : Nat) :
    ∀ (fs : List Field) (off : Nat) (ts : List Ty) (fin : Nat), schFields P s fs off = some (ts, fin) → fin = cs.length → off ≤ cs.length →
      (∀ f ∈ fs, ∃ y, DataW.trod enc P W base spare held n f.type ((cs.drop f.offset).take (P.cellsOf f.type)) = some y) → ∃ ccs, hasAll ts ccs ∧ RowV fid X W ccs (cs.drop off)
  | [], off, ts, fin, h, hf, _, _ => by
    simp only [schFields, Option.some.injEq, Prod.mk.injEq] at h
    obtain ⟨rfl, rfl⟩ := h
    refine ⟨[], by simp [hasAll], ?_⟩
    rw [hf, List.drop_length]
    exact RowV.nil
  | f :: r, off, ts, fin, h, hf, hle, hall => by
    simp only [schFields] at h
    split at h
    case isFalse => cases h
    rename_i ho
    simp only [Option.bind_eq_some_iff] at h
    obtain ⟨T, hT, ⟨ts', fin'⟩, hr, h⟩ := h
    simp only [Option.some.injEq, Prod.mk.injEq] at h
    obtain ⟨rfl, rfl⟩ := h
    obtain ⟨y, hy⟩ := hall f (List.mem_cons_self ..)
    obtain ⟨a, ha, hra⟩ := go _ _ _ hT _ _ hy
    have hmono : ∀ (l : List Field) (o : Nat) (q : List Ty × Nat), schFields P s l o = some q → o ≤ q.2 := by
      intro l
      induction l with
      | nil => intro o q hq; simp only [schFields, Option.some.injEq] at hq; subst hq; exact Nat.le_refl _
      | cons f l ih =>
        intro o q hq
        simp only [schFields] at hq
        split at hq
        · simp only [Option.bind_eq_some_iff, Option.some.injEq] at hq
          obtain ⟨_, _, q', hq', rfl⟩ := hq
          have := ih _ _ hq'
          simp only at this ⊢; omega
        · cases hq
    have hoff := hmono _ _ _ hr
    simp only at hoff
    obtain ⟨b, hb, hrb⟩ := read_fields go n r _ ts' fin' hr hf (by omega) fun g hg => hall g (List.mem_cons_of_mem _ hg)
    refine ⟨a ++ b, ⟨a, b, rfl, ha, hb⟩, ?_⟩
    rw [ho] at hra
    have e : cs.drop off = (cs.drop off).take (P.cellsOf f.type) ++ cs.drop (off + P.cellsOf f.type) := by
      rw [← List.drop_drop, List.take_append_drop]
    rw [e]
    exact hra.append hrb

theorem read_elems {T : Ty} {e : TypeId} {sz n : Nat} (go : ∀ cs' y, DataW.trod enc P W base spare held n e cs' = some y → ∃ ccs, T.has ccs ∧ RowV fid X W ccs cs') :
    ∀ (m : Nat) {cs : List Value}, cs.length = m * sz → (∀ i, i < m → ∃ y, DataW.trod enc P W base spare held n e ((cs.drop (i * sz)).take sz) = some y) →
      ∃ css : List (List CV), css.length = m ∧ (∀ c ∈ css, T.has c) ∧ RowV fid X W css.flatten cs
  | 0, cs, hl, _ => by
    have : cs = [] := List.length_eq_zero_iff.1 (by simpa using hl)
    subst this
    exact ⟨[], rfl, by simp, RowV.nil⟩
  | m + 1, cs, hl, h => by
    obtain ⟨y, hy⟩ := h 0 (by omega)
    obtain ⟨a, ha, hra⟩ := go _ _ hy
    rw [Nat.zero_mul, List.drop_zero] at hra
    obtain ⟨css, h1, h2, h3⟩ := read_elems (sz := sz) go m (cs := cs.drop sz) (by rw [List.length_drop, hl, Nat.succ_mul]; omega) fun i hi => by
      have := h (i + 1) (by omega)
      rwa [List.drop_drop, show sz + i * sz = (i + 1) * sz by rw [Nat.succ_mul]; omega]
    refine ⟨a :: css, by simp [h1], fun c hc => ?_, ?_⟩
    · rcases List.mem_cons.1 hc with rfl | hc
      · exact ha
      · exact h2 c hc
    · rw [List.flatten_cons]
      have e : cs = cs.take sz ++ cs.drop sz := (List.take_append_drop _ _).symm
      rw [e]
      exact hra.append h3

/-- What is read as data has the cells of its type. -/
theorem read_cells : ∀ (d : Nat) (t : TypeId) (T : Ty) (cs : List Value), sch P d t = some T → ∀ n y, DataW.trod enc P W base spare held n t cs = some y → ∃ ccs, T.has ccs ∧ RowV fid X W ccs cs
  | 0, t, T, cs, h, n, y, _ => by cases h
  | d + 1, t, T, cs, h, n, y, hy => by
    simp only [sch] at h
    split at h
    · rename_i k hu
      cases h
      obtain ⟨m, rfl, _, hw⟩ := DataW.trod_int hu hy
      exact ⟨_, ⟨m, rfl, hw⟩, RowV.one rfl (.int k m)⟩
    · rename_i hu
      cases h
      obtain ⟨b, rfl, _⟩ := DataW.trod_bool hu hy
      exact ⟨_, ⟨b, rfl⟩, RowV.one rfl (.bool b)⟩
    · rename_i hu
      cases h
      obtain ⟨s, rfl, _, hl⟩ := DataW.trod_string hu hy
      exact ⟨_, ⟨s.data.toList, rfl, by simpa using hl⟩, RowV.one rfl (.str s)⟩
    · rename_i fs hu
      simp only [Option.bind_eq_some_iff] at h
      obtain ⟨⟨ts, fin⟩, hs, h⟩ := h
      split at h
      case isFalse => cases h
      rename_i hfin
      cases h
      obtain ⟨xs, m, rfl, _, hl, hxl, hat⟩ := DataW.trod_struct hu hy
      obtain ⟨ccs, h1, h2⟩ := read_fields (cs := cs) (fun t T cs' hs n y hy => read_cells d t T cs' hs n y hy) m fs.toList 0 ts fin hs (by rw [hl]; exact hfin) (Nat.zero_le _) fun f hf => by
        obtain ⟨i, hi, hfi⟩ := List.getElem_of_mem hf
        have hi' : i < fs.size := by simpa using hi
        have := hat i f (by rw [Array.getElem?_eq_getElem hi']; simpa using hfi)
        rw [this, List.getElem?_eq_getElem (by omega)]
        exact ⟨_, rfl⟩
      exact ⟨ccs, h1, by simpa using h2⟩
    · rename_i m e hu
      simp only [Option.bind_eq_some_iff] at h
      obtain ⟨T', hT, h⟩ := h
      split at h
      case isFalse => cases h
      rename_i hsz
      cases h
      obtain ⟨xs, q, rfl, _, hl, hxl, hat⟩ := DataW.trod_array hu hy
      obtain ⟨css, h1, h2, h3⟩ := read_elems (T := T') (e := e) (sz := P.cellsOf e) (n := q) (fun cs' y hy => read_cells d e T' cs' hT q y hy) m (cs := cs) (by rw [hl, hsz]) fun i hi => by
        have := hat i hi
        rw [this, List.getElem?_eq_getElem (by omega)]
        exact ⟨_, rfl⟩
      exact ⟨css.flatten, ⟨css, h1, rfl, h2⟩, h3⟩
    · cases h

def Ty.isAgg : Ty → Bool
  | .struct _ | .arr _ _ => true
  | _ => false
def Ty.val (T : Ty) (ccs : List CV) : CV := if T.isAgg then .agg ccs else ccs.headD default

theorem read_val {t : TypeId} {T : Ty} {v : Value} {d : Nat} {x : DataW H} {ps : List MemPlace} {r : Reach} {b0 : Nat} (hs : sch P d t = some T) (hval : Value.okWide P W r b0 t v) (h : DataW.Trod enc P W base spare held t v x ps) :
    ∃ ccs, T.has ccs ∧ VR fid X W (T.val ccs) v := by
  obtain ⟨n, hn⟩ := h
  obtain ⟨ccs, h1, h2, h3⟩ := read_cells (fid := fid) (X := X) d t T _ hs n _ hn
  refine ⟨ccs, h1, ?_⟩
  cases d with
  | zero => cases hs
  | succ d =>
    have agg : ∀ cs : Array Value, v = .agg cs → T.isAgg = true → VR fid X W (T.val ccs) v := by
      rintro cs rfl ht
      rw [Ty.val, if_pos ht]
      refine .agg (by simpa [Value.cells] using h2.symm) (fun i c hc => (h3 i c hc).1) fun i c hc => ?_
      obtain ⟨_, u, hu, hv⟩ := h3 i c hc
      have : cs[i]? = some u := by simpa [Value.cells] using hu
      simpa [Array.getD_eq_getD_getElem?, this] using hv
    have one : v.cells = #[v] → (∃ c, ccs = [c]) → T.isAgg = false → VR fid X W (T.val ccs) v := by
      rintro hc ⟨c, rfl⟩ ht
      rw [Ty.val, if_neg (by simp [ht])]
      obtain ⟨_, u, hu, hv⟩ := h3 0 c rfl
      rw [hc] at hu
      simp at hu
      subst hu
      exact hv
    simp only [sch] at hs
    split at hs
    · rename_i k hu
      cases hs
      obtain ⟨m, rfl⟩ := okWide_int hu hval
      obtain ⟨m', rfl, _⟩ := h1
      exact one rfl ⟨_, rfl⟩ rfl
    · rename_i hu
      cases hs
      obtain ⟨m, rfl⟩ := okWide_bool hu hval
      obtain ⟨m', rfl⟩ := h1
      exact one rfl ⟨_, rfl⟩ rfl
    · rename_i hu
      cases hs
      obtain ⟨m, rfl⟩ := okWide_string hu hval
      obtain ⟨m', rfl, _⟩ := h1
      exact one rfl ⟨_, rfl⟩ rfl
    · rename_i fs hu
      simp only [Option.bind_eq_some_iff] at hs
      obtain ⟨⟨ts, fin⟩, _, hs⟩ := hs
      split at hs
      case isFalse => cases hs
      cases hs
      have hval' := hval
      unfold Value.okWide at hval'
      rw [hu] at hval'
      obtain ⟨cs, rfl, _⟩ := hval'
      exact agg cs rfl rfl
    · rename_i m e hu
      simp only [Option.bind_eq_some_iff] at hs
      obtain ⟨T', _, hs⟩ := hs
      split at hs
      case isFalse => cases hs
      cases hs
      have hval' := hval
      unfold Value.okWide at hval'
      rw [hu] at hval'
      obtain ⟨cs, rfl, _⟩ := hval'
      exact agg cs rfl rfl
    · cases hs

/-- A slice of such. -/
theorem read_slice {t e : TypeId} {T : Ty} {v : Value} {d : Nat} {x : DataW H} {ps : List MemPlace} {r : Reach} {b0 : Nat} (hu : P.underlying t = some (.slice e)) (hs : sch P d e = some T) (hval : Value.okWide P W r b0 t v)
    (h : DataW.Trod enc P W base spare held t v x ps) :
    ∃ c, (c = .nils ∨ ∃ css : List (List CV), c = .vec css.flatten css.length false ∧ css.length ≤ maxLen ∧ ∀ a ∈ css, T.has a ∧ a.length = P.cellsOf e) ∧ VR fid (X0 W) W c v := by
  obtain ⟨a0, len, cap, rfl⟩ := okWide_slice hu hval
  obtain ⟨n, hn⟩ := h
  rcases DataW.trod_slice hu hn with ⟨h0, _⟩ | ⟨a, len', cap', elems, rest, m, rfl, hv, _, hb, hlc, hcm, hel, hat, _, _⟩
  · simp only [Value.cells, List.cons.injEq, Value.slice.injEq, and_true] at h0
    obtain ⟨rfl, rfl, rfl⟩ := h0
    exact ⟨.nils, .inl rfl, .nils⟩
  · simp only [Value.cells, List.cons.injEq, Value.slice.injEq, and_true] at hv
    obtain ⟨rfl, rfl, rfl⟩ := hv
    have hsp : a.spot = none := by
      unfold Value.okWide at hval
      rw [hu] at hval
      simp only [Cell.okWide, hu, Cell.ok] at hval
      exact hval.2.2.2.1
    obtain ⟨r, o, sp⟩ := a
    simp only at hsp
    subst hsp
    have hcell : ∀ i, i < len → ∃ cs', W.cells? base (Addr.add ⟨r, o, none⟩ (i * P.cellsOf e)) (P.cellsOf e) = some cs' ∧ ∃ ccs, T.has ccs ∧ RowV fid (X0 W) W ccs cs' := by
      intro i hi
      have h1 := hat i hi
      rw [List.getElem?_eq_getElem (by omega)] at h1
      obtain ⟨cs', h2, h3⟩ := Option.bind_eq_some_iff.1 h1
      exact ⟨cs', h2, read_cells d e T cs' hs m _ h3⟩
    have key : ∀ k, k ≤ len → ∃ css : List (List CV), css.length = k ∧ (∀ a ∈ css, T.has a ∧ a.length = P.cellsOf e) ∧ css.flatten.length = k * P.cellsOf e ∧
        ∀ (i : Nat) (c : CV), css.flatten[i]? = some c → c.one = true ∧ ∃ u, W.cell? ⟨r, o + i, none⟩ = some u ∧ VR fid (X0 W) W c u := by
      intro k
      induction k with
      | zero => intro _; exact ⟨[], rfl, by simp, by simp, by simp⟩
      | succ k ih =>
        intro hk
        obtain ⟨css, h1, h2, h3, h4⟩ := ih (by omega)
        obtain ⟨cs', q1, ccs, q2, q3, q4⟩ := hcell k (by omega)
        obtain ⟨_, w2, w3⟩ := World.cells?_some q1
        refine ⟨css ++ [ccs], by simp [h1], fun a ha => ?_, ?_, fun i c hc => ?_⟩
        · rcases List.mem_append.1 ha with ha | ha
          · exact h2 a ha
          · simp only [List.mem_cons, List.not_mem_nil, or_false] at ha
            subst ha
            exact ⟨q2, by rw [q3, w2]⟩
        · simp only [List.flatten_append, List.flatten_cons, List.flatten_nil, List.append_nil, List.length_append, h3, q3, w2, Nat.succ_mul]
        · simp only [List.flatten_append, List.flatten_cons, List.flatten_nil, List.append_nil] at hc
          rw [List.getElem?_append] at hc
          by_cases hi : i < css.flatten.length
          · rw [if_pos hi] at hc
            exact h4 i c hc
          · rw [if_neg hi] at hc
            obtain ⟨g1, u, g2, g3⟩ := q4 _ c hc
            refine ⟨g1, u, ?_, g3⟩
            have hlt : i - css.flatten.length < P.cellsOf e := by
              have := (List.getElem?_eq_some_iff.1 g2).1
              omega
            have := w3 _ hlt
            rw [g2] at this
            rw [← this]
            congr 1
            unfold Addr.add
            rw [h3] at hi ⊢
            by_cases z1 : k * P.cellsOf e = 0 <;> by_cases z2 : i - k * P.cellsOf e = 0 <;> simp [z1, z2] <;> omega
    obtain ⟨css, h1, h2, h3, h4⟩ := key len (Nat.le_refl _)
    refine ⟨_, .inr ⟨css, rfl, by omega, h2⟩, ?_⟩
    rw [h1]
    refine .vec hlc (by simp) (fun i c hc => ?_) fun i c hc => ?_
    · obtain ⟨g1, u, g2, _⟩ := h4 i c hc
      refine ⟨g1, ?_, by rw [g2]; rfl⟩
      show r < W.heap.size
      unfold World.cell? at g2
      cases hh : W.heap[r]? with
      | none => simp [hh] at g2
      | some _ => exact (Array.getElem?_eq_some_iff.1 hh).1
    · obtain ⟨_, u, g2, g3⟩ := h4 i c hc
      unfold cellD
      rw [g2]
      exact g3

end Go.Cs
