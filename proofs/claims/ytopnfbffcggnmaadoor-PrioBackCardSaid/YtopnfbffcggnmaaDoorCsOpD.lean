/- The operations, one by one: slices' bounds, conversions, copy, clear. -/
import Derived.Test.YtopnfbffcggnmaaDoorCsApp
import Derived.Laws.BytesString
namespace Go.Cs
open Go.RowKit (Below)
variable {P : Program} {fid : FuncId → Option Nat} {N : Nat} {w0 : World} {X : Cx} {cw : CW} {w : World} {ρ : Env} {a : Act}

theorem intV_inv {c : CV} {v : Value} {n : Int} (h : intV c = some n) (hv : VR fid X w c v) : ∃ k, v = .int k n := by
  cases c <;> simp [intV] at h
  subst h
  exact ⟨_, hv.int_inv⟩

theorem bound_run {v : Value} {k : IntKind} {n : Int} {y : Nat} {code : BoundsCode} (hv : v = .int k n) (h0 : 0 ≤ n) (h : n ≤ y) : (Instr.sliceBound v y code).run P w = .ok n.toNat w := by
  subst hv
  simp [Instr.sliceBound, asIntOf, h0, h]

/-- An operand that may be lacking: its value. -/
def OptR (fid : FuncId → Option Nat) (X : Cx) (w : World) : Option CV → Option Value → Prop
  | none, none => True
  | some c, some v => VR fid X w c v
  | _, _ => False

theorem rxo_vr {x : Option Operand} {r : Option RX} {c : Option CV} (h : rxo fid x = some r) (he : evo (ev ρ) r = some c) (hE : EnvR fid X w ρ a) : OptR fid X w c (x.map a.eval) := by
  cases x with
  | none => cases h; cases he; trivial
  | some x =>
    simp only [rxo, Option.bind_eq_some_iff] at h
    obtain ⟨y, hy, h⟩ := h
    cases h
    simp only [evo, Option.bind_eq_some_iff] at he
    obtain ⟨v, hv, he⟩ := he
    cases he
    exact rx_vr hy hv hE

/-- The bounds of a slice expression of two. -/
theorem bounds2 {isS : Bool} {len cap : Nat} {lo hi : Option CV} {vlo vhi : Option Value} {o h : Int} (h1 : OptR fid X w lo vlo) (h2 : OptR fid X w hi vhi)
    (ho : loV lo = some o) (hh : hiV len hi = some h)
    (b1 : 0 ≤ o) (b2 : o ≤ h) (b3 : h ≤ cap) (b4 : len ≤ cap) : (Instr.sliceBounds isS len cap vlo vhi none).run P w = .ok (o.toNat, h.toNat, cap) w := by
  have hlo : ∀ (H : Nat), o ≤ H → (lo = none ∧ vlo = none ∧ o = 0) ∨ ∃ k, vlo = some (.int k o) := by
    intro H _
    cases lo with
    | none =>
      cases vlo with
      | none => simp [loV] at ho; exact .inl ⟨rfl, rfl, ho.symm⟩
      | some v => exact h1.elim
    | some c =>
      cases vlo with
      | none => exact h1.elim
      | some v =>
        obtain ⟨k, rfl⟩ := intV_inv ho h1
        exact .inr ⟨k, rfl⟩
  cases hi with
  | none =>
    cases vhi with
    | none =>
      simp [hiV] at hh
      subst hh
      rcases hlo len b2 with ⟨_, rfl, rfl⟩ | ⟨k, rfl⟩
      · simp [Instr.sliceBounds]
      · have hb := fun code => bound_run (P := P) (w := w) (v := .int k o) (k := k) (n := o) (y := len) (code := code) rfl b1 b2
        simp [Instr.sliceBounds, hb]
    | some v => exact h2.elim
  | some c =>
    cases vhi with
    | none => exact h2.elim
    | some v =>
      obtain ⟨k, rfl⟩ := intV_inv hh h2
      have hb := fun code => bound_run (P := P) (w := w) (v := .int k h) (k := k) (n := h) (y := cap) (code := code) rfl (by omega) b3
      rcases hlo h.toNat (by omega) with ⟨_, rfl, rfl⟩ | ⟨k', rfl⟩
      · simp [Instr.sliceBounds, hb]
      · have hb' := fun code => bound_run (P := P) (w := w) (v := .int k' o) (k := k') (n := o) (y := h.toNat) (code := code) rfl b1 (by omega)
        simp [Instr.sliceBounds, hb, hb']

theorem bounds3 {isS : Bool} {len cap : Nat} {lo hi : Option CV} {mx : CV} {vlo vhi : Option Value} {vmx : Value} {o h m : Int} (h1 : OptR fid X w lo vlo) (h2 : OptR fid X w hi vhi) (h3 : VR fid X w mx vmx)
    (ho : loV lo = some o) (hh : hi3 hi = some h) (hm : intV mx = some m)
    (b1 : 0 ≤ o) (b2 : o ≤ h) (b3 : h ≤ m) (b4 : m ≤ cap) : (Instr.sliceBounds isS len cap vlo vhi (some vmx)).run P w = .ok (o.toNat, h.toNat, m.toNat) w := by
  obtain ⟨km, rfl⟩ := intV_inv hm h3
  have hbm := fun code => bound_run (P := P) (w := w) (v := .int km m) (k := km) (n := m) (y := cap) (code := code) rfl (by omega) b4
  cases hi with
  | none => cases hh
  | some c =>
    cases vhi with
    | none => exact h2.elim
    | some v =>
      obtain ⟨k, rfl⟩ := intV_inv hh h2
      have hb := fun code => bound_run (P := P) (w := w) (v := .int k h) (k := k) (n := h) (y := m.toNat) (code := code) rfl (by omega) (by omega)
      cases lo with
      | none =>
        cases vlo with
        | none => simp [loV] at ho; subst ho; simp [Instr.sliceBounds, hbm, hb]
        | some v => exact h1.elim
      | some c =>
        cases vlo with
        | none => exact h1.elim
        | some v =>
          obtain ⟨kl, rfl⟩ := intV_inv ho h1
          have hbl := fun code => bound_run (P := P) (w := w) (v := .int kl o) (k := kl) (n := o) (y := h.toNat) (code := code) rfl b1 (by omega)
          simp [Instr.sliceBounds, hbm, hb, hbl]

theorem subS_ok {t : TypeId} {l : List UInt8} {lo hi : Option CV} {vlo vhi : Option Value} {o h : Int} (ht : P.underlying t = some .string) (h1 : OptR fid X w lo vlo) (h2 : OptR fid X w hi vhi)
    (ho : loV lo = some o) (hh : hiV l.length hi = some h)
    (b1 : 0 ≤ o) (b2 : o ≤ h) (b3 : h ≤ l.length) :
    ∃ v, (Instr.sliceAt t (.string ⟨l.toArray⟩) vlo vhi none).run P w = .ok v w ∧ VR fid X w (.str ((l.take h.toNat).drop o.toNat)) v := by
  have hsz : (ByteArray.mk l.toArray).size = l.length := by simp [ByteArray.size]
  have hb := bounds2 (P := P) (isS := false) (len := l.length) (cap := l.length) h1 h2 ho hh b1 b2 b3 (Nat.le_refl _)
  refine ⟨.string (ByteArray.extract ⟨l.toArray⟩ o.toNat h.toNat), ?_, ?_⟩
  · simp only [Instr.sliceAt, Sem.run_bind, run_underlying ht, Result.andThen_ok, Instr.slice, Option.isSome_none, Bool.false_eq_true, if_false, Sem.run_pure]
    rw [hsz, hb]
    rfl
  · have : (ByteArray.extract ⟨l.toArray⟩ o.toNat h.toNat) = ⟨((l.take h.toNat).drop o.toNat).toArray⟩ := by
      apply ByteArray.ext
      simp [ByteArray.data_extract, List.extract, List.drop_take]
    rw [this]
    exact VR.str' _

theorem RowAt.cut {r o : Nat} {cs : List CV} (h : RowAt fid X w r o cs) (i n : Nat) : RowAt fid X w r (o + i) ((cs.take n).drop i) := by
  intro j c hc
  rw [List.getElem?_drop, List.getElem?_take] at hc
  split at hc
  · rw [Nat.add_assoc]; exact h _ c hc
  · cases hc

theorem sub_slice_run {t e : TypeId} {sz : Nat} {base : Option Addr} {len cap L H M : Nat} {vlo vhi vmx : Option Value} (ht : P.underlying t = some (.slice e)) (hs : szOf P e = some sz)
    (hb : (Instr.sliceBounds true len cap vlo vhi vmx).run P w = .ok (L, H, M) w) :
    (Instr.sliceAt t (.slice base len cap) vlo vhi vmx).run P w = .ok (.slice (if M = L then base else base.map (·.add (L * sz))) (H - L) (M - L)) w := by
  simp only [Instr.sliceAt, Sem.run_bind, run_underlying ht, Result.andThen_ok, Instr.slice, hb, szOf_run hs, Sem.run_pure]

theorem vec_sub {cs : List CV} {sz r o : Nat} (k3 : RowAt fid X w r o cs) (k4 : ∀ (i : Nat) (c : CV), cs[i]? = some c → X.I r (o + i)) {L H M : Nat} (b1 : L ≤ H) (b2 : H ≤ M) {c2 : Bool} (hc : c2 = true → M = H) :
    VR fid X w (.vec ((cs.take (H * sz)).drop (L * sz)) (H - L) c2) (.slice (if M = L then some ⟨r, o, none⟩ else (some (Addr.mk r o none)).map (·.add (L * sz))) (H - L) (M - L)) := by
  by_cases hM : M = L
  · rw [if_pos hM]
    have hHL : H = L := by omega
    subst hHL
    have he : (cs.take (H * sz)).drop (H * sz) = [] := List.drop_eq_nil_of_le (by rw [List.length_take]; exact Nat.min_le_left _ _)
    rw [he]
    exact RowAt.vec (fun i c hc => by simp at hc) (fun i c hc => by simp at hc) (by omega) (fun h => by have := hc h; omega)
  · rw [if_neg hM]
    simp only [Option.map_some, add_none]
    refine RowAt.vec (k3.cut _ _) (fun i c hc => ?_) (by omega) (fun h => by have := hc h; omega)
    rw [List.getElem?_drop, List.getElem?_take] at hc
    split at hc
    · rw [Nat.add_assoc]; exact k4 _ c hc
    · cases hc

theorem bytesOf_spec : ∀ {cs : List CV} {l : List UInt8}, bytesOf cs = some l → ∃ ns : List Int, cs = ns.map (CV.int .u8) ∧ l = ns.map fun n => UInt8.ofNat n.toNat
  | [], l, h => by cases h; exact ⟨[], rfl, rfl⟩
  | c :: cs, l, h => by
    unfold bytesOf at h
    split at h
    · rename_i hh; cases hh
    · rename_i n r hh
      cases hh
      simp only [Option.bind_eq_some_iff] at h
      obtain ⟨m, hm, h⟩ := h
      cases h
      obtain ⟨ns, rfl, rfl⟩ := bytesOf_spec hm
      exact ⟨n :: ns, rfl, rfl⟩
    · cases h

theorem push_fold : ∀ (ns : List Int) (s : ByteArray), ns.foldl (fun r n => r.push (UInt8.ofNat n.toNat)) s = ⟨(s.data.toList ++ ns.map fun n => UInt8.ofNat n.toNat).toArray⟩
  | [], s => by simp
  | n :: ns, s => by
    simp only [List.foldl_cons]
    rw [push_fold ns]
    simp [ByteArray.push]

theorem b2s_ok {y : CV} {v : Value} {p : List CV × Nat} {l : List UInt8} (hS : Sim fid N w0 X cw w) (hv : VR fid X w y v) (hns : ∀ s, y ≠ .str s) (h : seqOf cw 1 y = some p) (hl : bytesOf p.1 = some l) :
    (Conv.bytesToString v).run P w = .ok (.string ⟨l.toArray⟩) w := by
  obtain ⟨h1, h2, ys, h3, h4, _, h5⟩ := seq_all (P := P) hS hv h
  obtain ⟨ns, hcs, rfl⟩ := bytesOf_spec hl
  have hys : ys = ns.map (Value.int .u8) := by
    apply List.ext_getElem?
    intro i
    by_cases hi : i < ys.length
    · have hi' : i < ns.length := by rw [hcs, List.length_map] at h3; omega
      have := (h5 i (.int .u8 ns[i]) (by rw [hcs]; simp [hi'])).2.int_inv
      rw [List.getElem?_eq_getElem hi] at this ⊢
      simp at this
      simp [hi', this]
    · rw [List.getElem?_eq_none (by omega), List.getElem?_eq_none (by rw [hcs, List.length_map] at h3; rw [List.length_map]; omega)]
  have hload := h4 w rfl
  cases y with
  | nils =>
    cases h; cases hv
    have : ns = [] := by simpa using hcs.symm
    subst this
    rfl
  | vec cs n clip =>
    obtain ⟨r, o, cap, rfl, _⟩ := hv.vec_inv
    have hn : p.2 = n := by
      simp only [seqOf] at h
      split at h <;> cases h
      rfl
    subst hn
    simp only [Builtin.firstCells, Nat.mul_one, hys] at hload
    rw [run_bytesToString w _ p.2 cap ns hload, push_fold]
    simp
  | ref b off n s =>
    cases hv with
    | @ref _ _ _ _ cap ad _ _ _ =>
      have hn : p.2 = n := by
        simp only [seqOf] at h
        split at h
        · split at h
          · split at h <;> cases h
            rfl
          · cases h
        · cases h
      subst hn
      simp only [Builtin.firstCells, Nat.mul_one, hys] at hload
      rw [run_bytesToString w _ p.2 cap ns hload, push_fold]
      simp
  | str s => exact absurd rfl (hns s)
  | _ => simp [seqOf] at h

theorem modify_push (h : Array Obj) (o : Obj) (f : Obj → Obj) : (h.push o).modify h.size f = h.push (f o) := by
  apply Array.ext_getElem?
  intro i
  rw [Array.getElem?_modify, Array.getElem?_push, Array.getElem?_push]
  by_cases hi : h.size = i
  · simp [hi]
  · have hi' : ¬ i = h.size := fun e => hi e.symm
    rw [if_neg hi, if_neg hi', if_neg hi']

/-- The bytes of a text in a new row. -/
theorem s2b_run {e : TypeId} (l : List UInt8) : ∃ cap rest fr, l.length ≤ cap ∧ (fr.2 ≤ fr.1 ∨ ((l.map fun b => Value.int .u8 b.toNat).toArray ++ rest).size ≤ fr.1) ∧
    ((l.map fun b => Value.int .u8 b.toNat).toArray ++ rest).size = cap ∧
    (Conv.stringToBytes e ⟨l.toArray⟩).run P w = .ok (.slice (some ⟨w.heap.size, 0, none⟩) l.length cap) (w.drew.alloc (.cells ((l.map fun b => Value.int .u8 b.toNat).toArray ++ rest) e fr)) := by
  have hsz : (ByteArray.mk l.toArray).size = l.length := by simp [ByteArray.size]
  have hcap : l.length ≤ (Question.appendCap l.length 0 e).cut (w.tape w.drawn (.appendCap l.length 0 e)) := by simp only [Question.cut]; omega
  generalize hc : (Question.appendCap l.length 0 e).cut (w.tape w.drawn (.appendCap l.length 0 e)) = cap at hcap
  refine ⟨cap, Array.replicate (cap - l.length) (.int .u8 0), (cap, cap + 1), hcap, ?_, by simp; omega, ?_⟩
  · right; simp; omega
  · have hd : (ByteArray.mk l.toArray).data.map (fun b => Value.int .u8 b.toNat) = (l.map fun b => Value.int .u8 b.toNat).toArray := by simp
    simp only [Conv.stringToBytes, Sem.run_bind, run_choose, hsz, Question.forced, Bool.false_eq_true, if_false, hc, Result.andThen_ok, hd, newRow, run_newObj, Sem.run_pure]
    generalize hrow : (l.map fun b => Value.int .u8 b.toNat).toArray ++ Array.replicate (cap - l.length) (Value.int .u8 0) = row
    have hrs : row.size = cap := by rw [← hrow]; simp; omega
    have hsh : World.shape? { w with drawn := w.drawn + 1, heap := w.heap.push (.cells row e) } w.heap.size = some (e, cap) := by
      simp [World.shape?, hrs]
    simp only [markStringish, Sem.run_bind, run_shape, Result.andThen_ok, hsh, run_freeze, World.freeze]
    simp only [Nat.succ_ne_self, if_false, Nat.one_ne_zero]
    congr 1
    simp only [World.drew, World.alloc_eq]
    have hmod := modify_push w.heap (.cells row e) fun
      | .cells c elem (lo, hi) => .cells c elem (if lo == hi then (cap, cap + 1) else (min lo cap, max hi (cap + 1)))
      | o => o
    exact congrArg (fun h => ({ heap := h, tape := w.tape, drawn := w.drawn + 1, os := w.os, output := w.output } : World)) hmod

end Go.Cs
