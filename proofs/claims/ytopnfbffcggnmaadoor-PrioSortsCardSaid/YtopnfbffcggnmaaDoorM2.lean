/- Parts: CsOpD, CsOpE, CsMap, CsStep, CsStep2, CsDraw, CsCode, CsRun. -/
import Derived.Test.YtopnfbffcggnmaaDoorM1
import Derived.Laws.BytesString
import Derived.MapKept
import Derived.Orders
import Derived.LoopN
import Derived.Scope
import Derived.Tactics
/- The operations, one by one: slices' bounds, conversions, copy, clear. -/
namespace Go.Cs
open Go.RowKit (Below)
variable {P : Program} {fid : FuncId → Option Nat} {N : Nat} {w0 : World} {X : Cx} {cw : CW} {w : World} {ρ : Env} {a : Act}

theorem intV_inv {c : CV} {v : Value} {n : Int} (h : intV c = some n) (hv : VR fid X w c v) : ∃ k, v = .int k n := by
  cases c <;> simp [intV] at h
  subst h
  exact ⟨_, hv.int_inv⟩

theorem bound_run {v : Value} {k : IntKind} {n : Int} {y : Nat} {code : BoundsCode} (hv : v = .int k n) (h0 : 0 ≤ n) (h : n ≤ y) : (Instr.sliceBound v y code).run P w = .ok n.toNat w := by
  subst hv
  simp [Instr.sliceBound, asIntOf, h0, h]

/-- An operand that may be lacking: its value. -/
def OptR (fid : FuncId → Option Nat) (X : Cx) (w : World) : Option CV → Option Value → Prop
  | none, none => True
  | some c, some v => VR fid X w c v
  | _, _ => False

theorem rxo_vr {x : Option Operand} {r : Option RX} {c : Option CV} (h : rxo fid x = some r) (he : evo (ev ρ) r = some c) (hE : EnvR fid X w ρ a) : OptR fid X w c (x.map a.eval) := by
  cases x with
  | none => cases h; cases he; trivial
  | some x =>
    simp only [rxo, Option.bind_eq_some_iff] at h
    obtain ⟨y, hy, h⟩ := h
    cases h
    simp only [evo, Option.bind_eq_some_iff] at he
    obtain ⟨v, hv, he⟩ := he
    cases he
    exact rx_vr hy hv hE

/-- The bounds of a slice expression of two. -/
theorem bounds2 {isS : Bool} {len cap : Nat} {lo hi : Option CV} {vlo vhi : Option Value} {o h : Int} (h1 : OptR fid X w lo vlo) (h2 : OptR fid X w hi vhi)
    (ho : loV lo = some o) (hh : hiV len hi = some h)
    (b1 : 0 ≤ o) (b2 : o ≤ h) (b3 : h ≤ cap) (b4 : len ≤ cap) : (Instr.sliceBounds isS len cap vlo vhi none).run P w = .ok (o.toNat, h.toNat, cap) w := by
  have hlo : ∀ (H : Nat), o ≤ H → (lo = none ∧ vlo = none ∧ o = 0) ∨ ∃ k, vlo = some (.int k o) := by
    intro H _
    cases lo with
    | none =>
      cases vlo with
      | none => simp [loV] at ho; exact .inl ⟨rfl, rfl, ho.symm⟩
      | some v => exact h1.elim
    | some c =>
      cases vlo with
      | none => exact h1.elim
      | some v =>
        obtain ⟨k, rfl⟩ := intV_inv ho h1
        exact .inr ⟨k, rfl⟩
  cases hi with
  | none =>
    cases vhi with
    | none =>
      simp [hiV] at hh
      subst hh
      rcases hlo len b2 with ⟨_, rfl, rfl⟩ | ⟨k, rfl⟩
      · simp [Instr.sliceBounds]
      · have hb := fun code => bound_run (P := P) (w := w) (v := .int k o) (k := k) (n := o) (y := len) (code := code) rfl b1 b2
        simp [Instr.sliceBounds, hb]
    | some v => exact h2.elim
  | some c =>
    cases vhi with
    | none => exact h2.elim
    | some v =>
      obtain ⟨k, rfl⟩ := intV_inv hh h2
      have hb := fun code => bound_run (P := P) (w := w) (v := .int k h) (k := k) (n := h) (y := cap) (code := code) rfl (by omega) b3
      rcases hlo h.toNat (by omega) with ⟨_, rfl, rfl⟩ | ⟨k', rfl⟩
      · simp [Instr.sliceBounds, hb]
      · have hb' := fun code => bound_run (P := P) (w := w) (v := .int k' o) (k := k') (n := o) (y := h.toNat) (code := code) rfl b1 (by omega)
        simp [Instr.sliceBounds, hb, hb']

theorem bounds3 {isS : Bool} {len cap : Nat} {lo hi : Option CV} {mx : CV} {vlo vhi : Option Value} {vmx : Value} {o h m : Int} (h1 : OptR fid X w lo vlo) (h2 : OptR fid X w hi vhi) (h3 : VR fid X w mx vmx)
    (ho : loV lo = some o) (hh : hi3 hi = some h) (hm : intV mx = some m)
    (b1 : 0 ≤ o) (b2 : o ≤ h) (b3 : h ≤ m) (b4 : m ≤ cap) : (Instr.sliceBounds isS len cap vlo vhi (some vmx)).run P w = .ok (o.toNat, h.toNat, m.toNat) w := by
  obtain ⟨km, rfl⟩ := intV_inv hm h3
  have hbm := fun code => bound_run (P := P) (w := w) (v := .int km m) (k := km) (n := m) (y := cap) (code := code) rfl (by omega) b4
  cases hi with
  | none => cases hh
  | some c =>
    cases vhi with
    | none => exact h2.elim
    | some v =>
      obtain ⟨k, rfl⟩ := intV_inv hh h2
      have hb := fun code => bound_run (P := P) (w := w) (v := .int k h) (k := k) (n := h) (y := m.toNat) (code := code) rfl (by omega) (by omega)
      cases lo with
      | none =>
        cases vlo with
        | none => simp [loV] at ho; subst ho; simp [Instr.sliceBounds, hbm, hb]
        | some v => exact h1.elim
      | some c =>
        cases vlo with
        | none => exact h1.elim
        | some v =>
          obtain ⟨kl, rfl⟩ := intV_inv ho h1
          have hbl := fun code => bound_run (P := P) (w := w) (v := .int kl o) (k := kl) (n := o) (y := h.toNat) (code := code) rfl b1 (by omega)
          simp [Instr.sliceBounds, hbm, hb, hbl]

theorem subS_ok {t : TypeId} {l : List UInt8} {lo hi : Option CV} {vlo vhi : Option Value} {o h : Int} (ht : P.underlying t = some .string) (h1 : OptR fid X w lo vlo) (h2 : OptR fid X w hi vhi)
    (ho : loV lo = some o) (hh : hiV l.length hi = some h)
    (b1 : 0 ≤ o) (b2 : o ≤ h) (b3 : h ≤ l.length) :
    ∃ v, (Instr.sliceAt t (.string ⟨l.toArray⟩) vlo vhi none).run P w = .ok v w ∧ VR fid X w (.str ((l.take h.toNat).drop o.toNat)) v := by
  have hsz : (ByteArray.mk l.toArray).size = l.length := by simp [ByteArray.size]
  have hb := bounds2 (P := P) (isS := false) (len := l.length) (cap := l.length) h1 h2 ho hh b1 b2 b3 (Nat.le_refl _)
  refine ⟨.string (ByteArray.extract ⟨l.toArray⟩ o.toNat h.toNat), ?_, ?_⟩
  · simp only [Instr.sliceAt, Sem.run_bind, run_underlying ht, Result.andThen_ok, Instr.slice, Option.isSome_none, Bool.false_eq_true, if_false, Sem.run_pure]
    rw [hsz, hb]
    rfl
  · have : (ByteArray.extract ⟨l.toArray⟩ o.toNat h.toNat) = ⟨((l.take h.toNat).drop o.toNat).toArray⟩ := by
      apply ByteArray.ext
      simp [ByteArray.data_extract, List.extract, List.drop_take]
    rw [this]
    exact VR.str' _

theorem RowAt.cut {r o : Nat} {cs : List CV} (h : RowAt fid X w r o cs) (i n : Nat) : RowAt fid X w r (o + i) ((cs.take n).drop i) := by
  intro j c hc
  rw [List.getElem?_drop, List.getElem?_take] at hc
  split at hc
  · rw [Nat.add_assoc]; exact h _ c hc
  · cases hc

theorem sub_slice_run {t e : TypeId} {sz : Nat} {base : Option Addr} {len cap L H M : Nat} {vlo vhi vmx : Option Value} (ht : P.underlying t = some (.slice e)) (hs : szOf P e = some sz)
    (hb : (Instr.sliceBounds true len cap vlo vhi vmx).run P w = .ok (L, H, M) w) :
    (Instr.sliceAt t (.slice base len cap) vlo vhi vmx).run P w = .ok (.slice (if M = L then base else base.map (·.add (L * sz))) (H - L) (M - L)) w := by
  simp only [Instr.sliceAt, Sem.run_bind, run_underlying ht, Result.andThen_ok, Instr.slice, hb, szOf_run hs, Sem.run_pure]

theorem vec_sub {cs : List CV} {sz r o : Nat} (k3 : RowAt fid X w r o cs) (k4 : ∀ (i : Nat) (c : CV), cs[i]? = some c → X.I r (o + i)) {L H M : Nat} (b1 : L ≤ H) (b2 : H ≤ M) {c2 : Bool} (hc : c2 = true → M = H) :
    VR fid X w (.vec ((cs.take (H * sz)).drop (L * sz)) (H - L) c2) (.slice (if M = L then some ⟨r, o, none⟩ else (some (Addr.mk r o none)).map (·.add (L * sz))) (H - L) (M - L)) := by
  by_cases hM : M = L
  · rw [if_pos hM]
    have hHL : H = L := by omega
    subst hHL
    have he : (cs.take (H * sz)).drop (H * sz) = [] := List.drop_eq_nil_of_le (by rw [List.length_take]; exact Nat.min_le_left _ _)
    rw [he]
    exact RowAt.vec (fun i c hc => by simp at hc) (fun i c hc => by simp at hc) (by omega) (fun h => by have := hc h; omega)
  · rw [if_neg hM]
    simp only [Option.map_some, add_none]
    refine RowAt.vec (k3.cut _ _) (fun i c hc => ?_) (by omega) (fun h => by have := hc h; omega)
    rw [List.getElem?_drop, List.getElem?_take] at hc
    split at hc
    · rw [Nat.add_assoc]; exact k4 _ c hc
    · cases hc

theorem bytesOf_spec : ∀ {cs : List CV} {l : List UInt8}, bytesOf cs = some l → ∃ ns : List Int, cs = ns.map (CV.int .u8) ∧ l = ns.map fun n => UInt8.ofNat n.toNat
  | [], l, h => by cases h; exact ⟨[], rfl, rfl⟩
  | c :: cs, l, h => by
    unfold bytesOf at h
    split at h
    · rename_i hh; cases hh
    · rename_i n r hh
      cases hh
      simp only [Option.bind_eq_some_iff] at h
      obtain ⟨m, hm, h⟩ := h
      cases h
      obtain ⟨ns, rfl, rfl⟩ := bytesOf_spec hm
      exact ⟨n :: ns, rfl, rfl⟩
    · cases h

theorem push_fold : ∀ (ns : List Int) (s : ByteArray), ns.foldl (fun r n => r.push (UInt8.ofNat n.toNat)) s = ⟨(s.data.toList ++ ns.map fun n => UInt8.ofNat n.toNat).toArray⟩
  | [], s => by simp
  | n :: ns, s => by
    simp only [List.foldl_cons]
    rw [push_fold ns]
    simp [ByteArray.push]

theorem b2s_ok {y : CV} {v : Value} {p : List CV × Nat} {l : List UInt8} (hS : Sim fid N w0 X cw w) (hv : VR fid X w y v) (hns : ∀ s, y ≠ .str s) (h : seqOf cw 1 y = some p) (hl : bytesOf p.1 = some l) :
    (Conv.bytesToString v).run P w = .ok (.string ⟨l.toArray⟩) w := by
  obtain ⟨h1, h2, ys, h3, h4, _, h5⟩ := seq_all (P := P) hS hv h
  obtain ⟨ns, hcs, rfl⟩ := bytesOf_spec hl
  have hys : ys = ns.map (Value.int .u8) := by
    apply List.ext_getElem?
    intro i
    by_cases hi : i < ys.length
    · have hi' : i < ns.length := by rw [hcs, List.length_map] at h3; omega
      have := (h5 i (.int .u8 ns[i]) (by rw [hcs]; simp [hi'])).2.int_inv
      rw [List.getElem?_eq_getElem hi] at this ⊢
      simp at this
      simp [hi', this]
    · rw [List.getElem?_eq_none (by omega), List.getElem?_eq_none (by rw [hcs, List.length_map] at h3; rw [List.length_map]; omega)]
  have hload := h4 w rfl
  cases y with
  | nils =>
    cases h; cases hv
    have : ns = [] := by simpa using hcs.symm
    subst this
    rfl
  | vec cs n clip =>
    obtain ⟨r, o, cap, rfl, _⟩ := hv.vec_inv
    have hn : p.2 = n := by
      simp only [seqOf] at h
      split at h <;> cases h
      rfl
    subst hn
    simp only [Builtin.firstCells, Nat.mul_one, hys] at hload
    rw [run_bytesToString w _ p.2 cap ns hload, push_fold]
    simp
  | ref b off n s =>
    cases hv with
    | @ref _ _ _ _ cap ad _ _ _ =>
      have hn : p.2 = n := by
        simp only [seqOf] at h
        split at h
        · split at h
          · split at h <;> cases h
            rfl
          · cases h
        · cases h
      subst hn
      simp only [Builtin.firstCells, Nat.mul_one, hys] at hload
      rw [run_bytesToString w _ p.2 cap ns hload, push_fold]
      simp
  | str s => exact absurd rfl (hns s)
  | _ => simp [seqOf] at h

theorem modify_push (h : Array Obj) (o : Obj) (f : Obj → Obj) : (h.push o).modify h.size f = h.push (f o) := by
  apply Array.ext_getElem?
  intro i
  rw [Array.getElem?_modify, Array.getElem?_push, Array.getElem?_push]
  by_cases hi : h.size = i
  · simp [hi]
  · have hi' : ¬ i = h.size := fun e => hi e.symm
    rw [if_neg hi, if_neg hi', if_neg hi']

/-- The bytes of a text in a new row. -/
theorem s2b_run {e : TypeId} (l : List UInt8) : ∃ cap rest fr, l.length ≤ cap ∧ (fr.2 ≤ fr.1 ∨ ((l.map fun b => Value.int .u8 b.toNat).toArray ++ rest).size ≤ fr.1) ∧
    ((l.map fun b => Value.int .u8 b.toNat).toArray ++ rest).size = cap ∧
    (Conv.stringToBytes e ⟨l.toArray⟩).run P w = .ok (.slice (some ⟨w.heap.size, 0, none⟩) l.length cap) (w.drew.alloc (.cells ((l.map fun b => Value.int .u8 b.toNat).toArray ++ rest) e fr)) := by
  have hsz : (ByteArray.mk l.toArray).size = l.length := by simp [ByteArray.size]
  have hcap : l.length ≤ (Question.appendCap l.length 0 e).cut (w.tape w.drawn (.appendCap l.length 0 e)) := by simp only [Question.cut]; omega
  generalize hc : (Question.appendCap l.length 0 e).cut (w.tape w.drawn (.appendCap l.length 0 e)) = cap at hcap
  refine ⟨cap, Array.replicate (cap - l.length) (.int .u8 0), (cap, cap + 1), hcap, ?_, by simp; omega, ?_⟩
  · right; simp; omega
  · have hd : (ByteArray.mk l.toArray).data.map (fun b => Value.int .u8 b.toNat) = (l.map fun b => Value.int .u8 b.toNat).toArray := by simp
    simp only [Conv.stringToBytes, Sem.run_bind, run_choose, hsz, Question.forced, Bool.false_eq_true, if_false, hc, Result.andThen_ok, hd, newRow, run_newObj, Sem.run_pure]
    generalize hrow : (l.map fun b => Value.int .u8 b.toNat).toArray ++ Array.replicate (cap - l.length) (Value.int .u8 0) = row
    have hrs : row.size = cap := by rw [← hrow]; simp; omega
    have hsh : World.shape? { w with drawn := w.drawn + 1, heap := w.heap.push (.cells row e) } w.heap.size = some (e, cap) := by
      simp [World.shape?, hrs]
    simp only [markStringish, Sem.run_bind, run_shape, Result.andThen_ok, hsh, run_freeze, World.freeze]
    simp only [Nat.succ_ne_self, if_false, Nat.one_ne_zero]
    congr 1
    simp only [World.drew, World.alloc_eq]
    have hmod := modify_push w.heap (.cells row e) fun
      | .cells c elem (lo, hi) => .cells c elem (if lo == hi then (cap, cap + 1) else (min lo cap, max hi (cap + 1)))
      | o => o
    exact congrArg (fun h => ({ heap := h, tape := w.tape, drawn := w.drawn + 1, os := w.os, output := w.output } : World)) hmod

end Go.Cs

/- All operations that are no calls and touch no map. -/
namespace Go.Cs
open Go.RowKit (Below)
variable {P : Program} {fid : FuncId → Option Nat} {N : Nat} {w0 : World} {X : Cx} {cw : CW} {w : World} {ρ : Env} {a : Act}

theorem pu_some {v : Option CV} {c : CV} {cw cw' : CW} (h : (v.bind fun v => some (v, cw)) = some (c, cw')) : v = some c ∧ cw' = cw := by
  simp only [Option.bind_eq_some_iff] at h
  obtain ⟨u, hu, h⟩ := h
  cases h
  exact ⟨hu, rfl⟩

theorem box_ok {t : TypeId} {n : Nat} {v : CV} {u : Value} (hS : Sim fid N w0 X cw w) (hv : VR fid X w v u) (h1 : (v.cells.all CV.one) = true) :
    OpOk fid N w0 X P (do pure (.value (← Instr.box t u))) w (.ptr cw.next 0) (cw.push (.cells v.cells)) := by
  obtain ⟨X', s, e, hnx, hM⟩ := new_mut (T := t) (fr := (0, 0)) hS (cs := v.cells) (rcs := u.cells) (by rw [hv.cells_size]; exact Nat.le_refl _) (.inl (Nat.le_refl _))
    fun i c hc => ⟨List.all_eq_true.1 h1 c (List.mem_of_getElem? hc), hv.cells_at i c hc⟩
  refine OpOk.val (v := .pointer (some ⟨w.heap.size, 0, none⟩)) ?_ s e (.ptr (by omega) fun m hm => ?_)
  · simp [Instr.box, newVar, newRow]
  · rw [hM] at hm; cases hm; rfl

theorem alloc_ok {t : TypeId} {z : List CV} (hS : Sim fid N w0 X cw w) (hz : zeroOf P t = some z) :
    OpOk fid N w0 X P (do pure (.value (← Instr.alloc t true (.tuple #[])))) w (.ptr cw.next 0) (cw.push (.cells z)) := by
  obtain ⟨i, zv, hi, hzv, hsz, hzl, hzr, hrun, hso⟩ := zeroOf_spec (fid := fid) (X := X) (w := w) hz
  obtain ⟨X', s, e, hnx, hM⟩ := new_mut (T := t) (fr := (0, 0)) hS (cs := z) (rcs := zv.cells) (by rw [hzr.1]; exact Nat.le_refl _) (.inl (Nat.le_refl _)) hzr.2
  refine OpOk.val (v := .pointer (some ⟨w.heap.size, 0, none⟩)) ?_ s e (.ptr (by omega) fun m hm => ?_)
  · simp [Instr.alloc, hrun, newVar, newRow]
  · rw [hM] at hm; cases hm; rfl

/-- A canonical address, and Go's. -/
theorem addr_ok {x : CV} {v : Value} (hS : Sim fid N w0 X cw w) (hv : VR fid X w x v) :
    (∀ b off cs, x = .ptr b off → cw.get b = some (.cells cs) → ∃ m, X.M b = some m ∧ v = .pointer (some ⟨m.1, m.2.1 + off, none⟩) ∧ RowAt fid X w m.1 m.2.1 cs) ∧
    (∀ cs off, x = .row cs off → ∃ r o, v = .pointer (some ⟨r, o + off, none⟩) ∧ RowAt fid X w r o cs) := by
  constructor
  · rintro b off cs rfl hg
    obtain ⟨m, hm, hr⟩ := hS.rowAt hg
    cases hv with
    | ptr h1 h2 => exact ⟨m, hm, by rw [h2 m hm], hr⟩
  · rintro cs off rfl
    obtain ⟨r, o, h1, h2, _⟩ := hv.row_inv
    exact ⟨r, o, h1, h2⟩

theorem store_ok {t : TypeId} {n b off : Nat} {cs : List CV} {u : CV} {va vu : Value} (hS : Sim fid N w0 X cw w) (ht : szOf P t = some n) (hx : VR fid X w (.ptr b off) va) (hg : cw.get b = some (.cells cs))
    (hu : VR fid X w u vu) (hn : u.cells.length = n) (hle : off + n ≤ cs.length) (h1 : (u.cells.all CV.one) = true) :
    OpOk fid N w0 X P (do Instr.storeAt t va vu; pure .skip) w (.tup []) (cw.set b (.cells (splice cs off u.cells))) := by
  obtain ⟨m, w', hm, hst, s, e⟩ := store_sim (P := P) hS hg (off := off) (ds := u.cells) (vs := vu.cells.toList) (by rw [hn]; exact hle) (by rw [Array.length_toList, hu.cells_size])
    fun i c hc => ⟨List.all_eq_true.1 h1 c (List.mem_of_getElem? hc), by
      have := hu.cells_at i c hc
      rw [Array.getD_eq_getD_getElem?] at this
      simpa using this⟩
  cases hx with
  | ptr h3 h4 =>
    rw [h4 m hm]
    refine OpOk.unit (w' := w') ?_ s e
    have hsz : vu.cells.size = n := by rw [hu.cells_size, hn]
    simp only [Instr.storeAt, Instr.sureAddr, Sem.run_bind, Sem.run_pure, Result.andThen_ok, storeVar, szOf_run ht, hsz]
    simp only [ne_eq, not_true_eq_false, if_false, Sem.run_bind, Sem.run_pure, Result.andThen_ok]
    exact hst

theorem fieldPlace_run {f : Field} {n : Nat} {r o : Nat} (h : szOf P f.type = some (n + 1)) : (fieldPlace ⟨r, o, none⟩ f).run P w = .ok ⟨r, o + f.offset, none⟩ w := by
  simp [fieldPlace, szOf_run h, add_none]

theorem index_run {t : TypeId} {v vi : Value} {k : IntKind} {i : Int} (hi : vi = .int k i) : (asIntOf vi).run P w = .ok (k, i) w := by subst hi; rfl

theorem copy_ok {t e : TypeId} {sz : Nat} {y : CV} {vx vy : Value} {p : List CV × Nat} {b off n : Nat} {cs : List CV} {ty u : TypeId} (hS : Sim fid N w0 X cw w) (ht : P.underlying t = some (.slice e)) (hs : szOf P e = some sz)
    (hx : VR fid X w (.ref b off n sz) vx) (hy : VR fid X w y vy) (hp : seqOf cw sz y = some p) (hg : cw.get b = some (.cells cs)) (hle : off + n * sz ≤ cs.length) :
    OpOk fid N w0 X P (do pure (.value (← Builtin.copy_ #[t, u] ty #[vx, vy]))) w (.int .i64 (min p.2 n : Nat)) (cw.set b (.cells (splice cs off (p.1.take (min p.2 n * sz))))) := by
  obtain ⟨h1, h2, ys, h3, _, h4, h5⟩ := seq_all (P := P) hS hy hp
  have hmin : min p.2 n * sz ≤ p.2 * sz := Nat.mul_le_mul_right _ (Nat.min_le_left _ _)
  have hmin2 : min p.2 n * sz ≤ n * sz := Nat.mul_le_mul_right _ (Nat.min_le_right _ _)
  have hlen : (p.1.take (min p.2 n * sz)).length = min p.2 n * sz := by rw [List.length_take]; omega
  obtain ⟨m, w', hm, hst, s, ex⟩ := store_sim (P := P) hS hg (off := off) (ds := p.1.take (min p.2 n * sz)) (vs := ys.take (min p.2 n * sz)) (by rw [hlen]; omega) (by rw [hlen, List.length_take]; omega)
    fun i c hc => by
      rw [List.getElem?_take] at hc
      split at hc
      · rename_i hi
        rw [List.getElem?_take, if_pos hi]
        exact h5 i c hc
      · cases hc
  have hfirst : (Builtin.firstCells sz (min p.2 n) vy).run P w = .ok (ys.take (min p.2 n * sz)).toArray w := h4 w rfl _ (Nat.min_le_left _ _)
  cases hx with
  | @ref _ _ _ _ cap ad k1 k2 k3 =>
    obtain ⟨rfl, _⟩ := k3 m hm
    refine OpOk.val (v := .int .i64 (min p.2 n : Nat)) (w' := w') ?_ s ex (.int _ _)
    simp only [Builtin.copy_, List.getElem?_toArray, List.getElem?_cons_zero, List.getElem?_cons_succ, Sem.run_bind, run_underlying ht, Result.andThen_ok, Sem.run_pure, h1, szOf_run hs]
    rw [show Nat.min p.2 n = min p.2 n from rfl, hfirst]
    simp only [Result.andThen_ok, hst, Sem.run_pure]
    rfl

theorem copy_none {t e : TypeId} {sz : Nat} {y : CV} {vx vy : Value} {p : List CV × Nat} {n cap : Nat} {base : Option Addr} {ty u : TypeId} (hS : Sim fid N w0 X cw w) (ht : P.underlying t = some (.slice e)) (hs : szOf P e = some sz)
    (hx : vx = .slice base n cap) (hy : VR fid X w y vy) (hp : seqOf cw sz y = some p) (h0 : min p.2 n = 0) :
    OpOk fid N w0 X P (do pure (.value (← Builtin.copy_ #[t, u] ty #[vx, vy]))) w (.int .i64 0) cw := by
  obtain ⟨h1, h2, ys, h3, _, h4, h5⟩ := seq_all (P := P) hS hy hp
  subst hx
  refine OpOk.pur (v := .int .i64 0) hS ?_ (.int _ _)
  have hfirst := h4 w rfl 0 (Nat.zero_le _)
  simp only [Builtin.copy_, List.getElem?_toArray, List.getElem?_cons_zero, List.getElem?_cons_succ, Sem.run_bind, run_underlying ht, Result.andThen_ok, Sem.run_pure, h1, szOf_run hs]
  rw [show Nat.min p.2 n = min p.2 n from rfl, h0, hfirst]
  cases base <;> simp [storeCells, goInt]

theorem clr_ok {t e : TypeId} {sz : Nat} {vx : Value} {b off n : Nat} {cs z : List CV} {ty : TypeId} (hS : Sim fid N w0 X cw w) (ht : P.underlying t = some (.slice e)) (hz : zeroOf P e = some z)
    (hx : VR fid X w (.ref b off n sz) vx) (hn : n ≠ 0) (hg : cw.get b = some (.cells cs)) (hle : off + n * sz ≤ cs.length) (hzl : z.length = sz) :
    OpOk fid N w0 X P (do pure (.value (← Builtin.clear_ #[t] ty #[vx]))) w (.tup []) (cw.set b (.cells (splice cs off (repl n z)))) := by
  obtain ⟨i, zv, hi, hzv, hsz, hzl', hzr, hrun, hso⟩ := zeroOf_spec (fid := fid) (X := X) (w := w) hz
  have hzz := zeros_cells hzr n
  have hzs : zv.cells.size = z.length := hzr.1.symm
  obtain ⟨m, w', hm, hst, s, ex⟩ := store_sim (P := P) hS hg (off := off) (ds := repl n z) (vs := (Builtin.zeroCells zv.cells n).toList) (by rw [repl_length, hzl]; exact hle)
    (by rw [Array.length_toList, zeroCells_size, repl_length, hzs]) fun i c hc => by
      have := hzz.2 i c hc
      rw [Array.getD_eq_getD_getElem?] at this
      rw [Array.getElem?_toList, show Builtin.zeroCells zv.cells n = (Array.range (n * z.length)).map (zv.cells[· % zv.cells.size]!) by unfold Builtin.zeroCells; rw [hzs]]
      exact this
  cases hx with
  | @ref _ _ _ _ cap ad k1 k2 k3 =>
    obtain ⟨rfl, _⟩ := k3 m hm
    refine OpOk.val (v := .tuple #[]) (w' := w') ?_ s ex .tup0
    cases n with
    | zero => exact absurd rfl hn
    | succ n =>
      simp only [Builtin.clear_, List.getElem?_toArray, List.getElem?_cons_zero, Sem.run_bind, run_underlying ht, Result.andThen_ok, hrun, hst, Sem.run_pure]

theorem clr_none {t e : TypeId} {vx : Value} {ty : TypeId} {base : Option Addr} {cap : Nat} (hS : Sim fid N w0 X cw w) (ht : P.underlying t = some (.slice e)) (hx : vx = .slice base 0 cap) :
    OpOk fid N w0 X P (do pure (.value (← Builtin.clear_ #[t] ty #[vx]))) w (.tup []) cw := by
  subst hx
  refine OpOk.pur (v := .tuple #[]) hS ?_ .tup0
  cases base <;> simp [Builtin.clear_, run_underlying ht]

theorem app_ok {t u e ty : TypeId} {i : TypeInfo} {d : TypeDesc} {x y : CV} {vx vy : Value} {p : List CV × Nat} {c : CV} {cw' : CW} (hS : Sim fid N w0 X cw w) (ht : P.underlying t = some (.slice e)) (hu : P.underlying u = some d)
    (hd : (∃ e', d = .slice e') ∨ d = .string) (hi : P.info? e = some i) (hno : ¬(i.size = 0 ∨ i.bytes > 1024)) (hz : ∃ z, i.zero = some z ∧ z.cells.size = i.size)
    (hx : VR fid X w x vx) (hy : VR fid X w y vy) (hp : seqOf cw i.size y = some p) (h : appV cw i.size x p.1 p.2 = some (c, cw')) :
    OpOk fid N w0 X P (do pure (.value (← Builtin.append_ #[t, u] ty #[vx, vy]))) w c cw' := by
  obtain ⟨h1, h2, ys, h3, h4, _, h5⟩ := seq_all (P := P) hS hy hp
  obtain ⟨z, hz1, hz2⟩ := hz
  have hsrc : Src P i.size u vy p.2 ys w := by
    refine ⟨?_, h1, h4 w rfl, h4 w.drew rfl, by omega, fun v hv => ?_⟩
    · rcases hd with ⟨e', rfl⟩ | rfl
      · exact .inl ⟨e', hu⟩
      · exact .inr hu
    · obtain ⟨j, hj, rfl⟩ := List.getElem_of_mem hv
      obtain ⟨q1, q2⟩ := h5 j _ (List.getElem?_eq_getElem (by omega))
      rw [List.getElem?_eq_getElem hj] at q2
      exact one_vr q2 q1
  have hF := appF_src (P := P) (w := w) (d := d) (ty := ty) ht hi rfl (fun h => hno (.inr h)) hz1 hz2 hsrc
  obtain ⟨v, w', X', g1, g2, g3, g4⟩ := app_core hF hS hx h3 h2 h5 (fun h => hno (.inl h)) h
  exact OpOk.val g1 g2 g3 g4

theorem appZ_ok {t u e ty : TypeId} {i : TypeInfo} {kn : IntKind} {x nv : CV} {vx vn : Value} {n : Int} {z : List CV} {c : CV} {cw' : CW} (hS : Sim fid N w0 X cw w) (ht : P.underlying t = some (.slice e)) (hu : P.underlying u = some (.int kn))
    (hi : P.info? e = some i) (hno : ¬(i.size = 0 ∨ i.bytes > 1024)) (hz : zeroOf P e = some z) (hx : VR fid X w x vx) (hn : VR fid X w nv vn) (hin : intV nv = some n) (h0 : 0 ≤ n) (hl : n ≤ lim)
    (h : appV cw i.size x (repl n.toNat z) n.toNat = some (c, cw')) :
    OpOk fid N w0 X P (do pure (.value (← Builtin.append_ #[t, u] ty #[vx, vn]))) w c cw' := by
  obtain ⟨i', zv, hi', hzv, hsz, hzl, hzr, hrun, hso⟩ := zeroOf_spec (fid := fid) (X := X) (w := w) hz
  rw [hi] at hi'; cases hi'
  obtain ⟨k, rfl⟩ := intV_inv hin hn
  obtain ⟨m, rfl⟩ := Int.eq_ofNat_of_zero_le h0
  rw [Int.toNat_natCast] at h
  have hzs : zv.cells.size = z.length := hzr.1.symm
  have hzz := zeros_cells hzr m
  have hF := appF_zeros (P := P) (w := w) (ty := ty) (kq := k) (m := m) ht hu hi rfl (fun h => hno (.inr h)) (fun h => hno (.inl h)) hzv hsz (by omega)
  obtain ⟨v, w', X', g1, g2, g3, g4⟩ := app_core hF hS hx (by rw [Array.length_toList, zeroCells_size, repl_length, hzs]) (by rw [repl_length, hzl]) (fun i c hc => by
      have := hzz.2 i c hc
      rw [Array.getD_eq_getD_getElem?] at this
      rw [Array.getElem?_toList, show Builtin.zeroCells zv.cells m = (Array.range (m * z.length)).map (zv.cells[· % zv.cells.size]!) by unfold Builtin.zeroCells; rw [hzs]]
      exact this) (fun h => hno (.inl h)) h
  exact OpOk.val g1 g2 g3 g4

theorem mk_ok {t e : TypeId} {i : TypeInfo} {z : List CV} {lv cv : CV} {vl vc : Value} {l c : Int} (hS : Sim fid N w0 X cw w) (ht : P.underlying t = some (.slice e)) (hi : P.info? e = some i)
    (hno : ¬(i.size = 0 ∨ i.bytes > 1024)) (hz : zeroOf P e = some z) (hl : VR fid X w lv vl) (hc : VR fid X w cv vc) (hil : intV lv = some l) (hic : intV cv = some c) (b1 : 0 ≤ l) (b2 : l ≤ c) (b3 : c ≤ lim) :
    OpOk fid N w0 X P (do pure (.value (← Instr.makeSlice t vl vc))) w (.ref cw.next 0 l.toNat i.size) (cw.push (.cells (repl l.toNat z))) := by
  obtain ⟨i', zv, hi', hzv, hsz, hzl, hzr, hrun, hso⟩ := zeroOf_spec (fid := fid) (X := X) (w := w) hz
  rw [hi] at hi'; cases hi'
  obtain ⟨kl, rfl⟩ := intV_inv hil hl
  obtain ⟨kc, rfl⟩ := intV_inv hic hc
  obtain ⟨m, rfl⟩ := Int.eq_ofNat_of_zero_le b1
  obtain ⟨n, rfl⟩ := Int.eq_ofNat_of_zero_le (Int.le_trans b1 b2)
  unfold lim at b3
  have hzz := zeros_cells hzr n
  have hzs : zv.cells.size = z.length := hzr.1.symm
  have hmn : m ≤ n := by omega
  obtain ⟨X', s, ex, hnx, hM⟩ := new_mut (T := e) (fr := (0, 0)) hS (cs := repl m z) (rcs := (Array.range (n * z.length)).map (zv.cells[· % zv.cells.size]!))
    (by rw [repl_length]; simp; exact Nat.mul_le_mul_right _ hmn) (.inl (Nat.le_refl _)) fun i c hc => by
      refine hzz.2 i c ?_
      rw [repl_at] at hc ⊢
      have hle : m * z.length ≤ n * z.length := Nat.mul_le_mul_right _ hmn
      split at hc
      · rw [if_pos (by omega)]; exact hc
      · cases hc
  refine OpOk.val (v := .slice (some ⟨w.heap.size, 0, none⟩) m n) (w' := w.alloc (.cells ((Array.range (n * z.length)).map (zv.cells[· % zv.cells.size]!)) e)) ?_ s ex (.ref (by omega) hmn fun mm hmm => ?_)
  · have hwl : IntKind.i64.wrap (m : Int) = m := by rw [IntKind.wrap_i64]; omega
    have hwc : IntKind.i64.wrap (n : Int) = n := by rw [IntKind.wrap_i64]; omega
    have hby : n * i.bytes ≤ 2 ^ 36 * 1024 := Nat.mul_le_mul (by omega) (by omega)
    have hby' : ((i.bytes : Int) * (n : Int)) ≤ 2 ^ 48 := by
      rw [← Int.natCast_mul, Nat.mul_comm]
      omega
    have h1 : ¬ ((n : Int) < 0) := by omega
    have h2 : ¬ ((i.bytes : Int) * (n : Int) > 2 ^ 48) := by omega
    have h3 : ¬ ((m : Int) < 0) := by omega
    have h4 : ¬ ((m : Int) > (n : Int)) := by omega
    have hinfo : (typeInfo e).run P w = .ok i w := by simp [typeInfo, hi]
    simp only [Instr.makeSlice, Sem.run_bind, run_underlying ht, Result.andThen_ok, asInt, asIntOf, Sem.run_pure, hinfo, hwl, hwc]
    simp only [h1, h2, h3, h4, decide_false, Bool.or_self, Bool.false_eq_true, if_false, Sem.run_bind, run_askRoom, Result.andThen_ok, szOf_run hso, Sem.run_pure, Int.toNat_natCast]
    by_cases h0 : n * i.size = 0
    · simp only [h0, if_true, Sem.run_pure, Result.andThen_ok, newRow, Sem.run_bind, run_newObj]
      rw [hzl, h0]
      have em : ∀ f : Nat → Value, (Array.range 0).map f = #[] := fun f => by rw [show Array.range 0 = #[] from rfl, Array.map_empty]
      rw [em, em]
      rfl
    · simp only [h0, if_false, Sem.run_bind, hrun, Sem.run_pure, Result.andThen_ok, newRow, run_newObj]
      rw [hzl]
      rfl
  · rw [hS.nx.symm] at hM
    rw [← hS.nx] at hmm
    rw [hM] at hmm
    cases hmm
    exact ⟨rfl, by simp [hzl]⟩

end Go.Cs

/- The operations on maps. -/
namespace Go.Cs
open Go.RowKit (Below)
variable {P : Program} {fid : FuncId → Option Nat} {N : Nat} {w0 : World} {X : Cx} {cw : CW} {w : World} {ρ : Env} {a : Act}

theorem getMap {r : Nat} {es : Array MapEntry} {clock : Nat} (h : w.heap[r]? = some (.map es clock)) : (getObj r).run P w = .ok (.map es clock) w := by
  simp [getObj, Sem.run, h]

theorem setMap {r : Nat} {es : Array MapEntry} {clock : Nat} (o : Obj) (h : w.heap[r]? = some (.map es clock)) : (setObj r o).run P w = .ok () { w with heap := w.heap.setIfInBounds r o } := by
  simp [setObj, Sem.run, h]

theorem keyEq_eq {k k' : CV} (h : keyEq k k' = true) : k' = k := by
  cases k <;> cases k' <;> simp [keyEq] at h
  · obtain ⟨rfl, rfl⟩ := h; rfl
  · subst h; rfl

def KeyD (ks : Bool) (d : TypeDesc) : Prop := (ks = false ∧ ∃ k, d = .int k) ∨ (ks = true ∧ d = .string)

theorem isKeyT_spec {t : TypeId} {ks : Bool} (h : isKeyT P t = some ks) : ∃ d, P.underlying t = some d ∧ KeyD ks d := by
  unfold isKeyT at h
  split at h <;> cases h
  · rename_i k ht; exact ⟨_, ht, .inl ⟨rfl, k, rfl⟩⟩
  · rename_i ht; exact ⟨_, ht, .inr ⟨rfl, rfl⟩⟩

theorem sameNow_run {ks : Bool} {d : TypeDesc} {k k' : CV} {v v' : Value} (hd : KeyD ks d) (hk : isKey ks k = true) (hs : sameKind k k' = true) (hv : VR fid X w k v) (hv' : VR fid X w k' v') :
    Instr.sameNow d v v' = some (keyEq k k') := by
  cases k <;> simp [isKey] at hk <;> cases k' <;> simp [sameKind] at hs
  · subst hs; subst hk
    rcases hd with ⟨_, q, rfl⟩ | ⟨h, _⟩
    · rw [hv.int_inv, hv'.int_inv]; simp [Instr.sameNow, keyEq]
    · cases h
  · subst hk
    rcases hd with ⟨h, _⟩ | ⟨_, rfl⟩
    · cases h
    · rw [hv.str_inv, hv'.str_inv]
      simp only [Instr.sameNow, keyEq, beq_toListBytes, ByteArray.toList_mk]

/-- Entries, and Go's. -/
def EntR (fid : FuncId → Option Nat) (X : Cx) (w : World) (es : List (CV × CV × Nat)) (rs : List MapEntry) : Prop :=
  rs.length = es.length ∧ ∀ (i : Nat) (e : CV × CV × Nat), es[i]? = some e → ∃ r, rs[i]? = some r ∧ r.born = e.2.2 ∧ VR fid X w e.1 r.key ∧ VR fid X w e.2.1 r.val

theorem find_run {ks : Bool} {d : TypeDesc} {k : CV} {v : Value} (hd : KeyD ks d) (hk : isKey ks k = true) (hv : VR fid X w k v) :
    ∀ (es : List (CV × CV × Nat)) (rs : List MapEntry) (i : Nat) (r : Option (Nat × CV × Nat)), EntR fid X w es rs → findE k es i = some r →
      (r = none ∧ Instr.findNow d v rs i = some none) ∨ ∃ j c b u, r = some (j, c, b) ∧ i ≤ j ∧ es[j - i]? = some (k, c, b) ∧ (rs[j - i]?).map (·.val) = some u ∧ VR fid X w c u ∧ Instr.findNow d v rs i = some (some (j, u))
  | [], rs, i, r, h, hf => by
    cases hf
    have : rs = [] := List.length_eq_zero_iff.1 (by rw [h.1]; rfl)
    subst this
    exact .inl ⟨rfl, rfl⟩
  | (k', c, b) :: es, rs, i, r, h, hf => by
    cases rs with
    | nil => have := h.1; simp at this
    | cons e rs =>
      obtain ⟨e', he, hb, h1, h2⟩ := h.2 0 _ rfl
      simp at he
      subst he
      simp only [findE] at hf
      split at hf
      · rename_i hs
        have hn := sameNow_run hd hk hs hv h1
        split at hf
        · rename_i hq
          cases hf
          cases keyEq_eq hq
          refine .inr ⟨i, c, b, e.val, rfl, Nat.le_refl _, by simp, by simp, h2, ?_⟩
          simp only [Instr.findNow, hn, hq]
        · rename_i hq
          have hq' : keyEq k k' = false := by simpa using hq
          have hrest : EntR fid X w es rs := ⟨by have := h.1; simpa using this, fun j e' hj => by have := h.2 (j + 1) e' (by simpa using hj); simpa using this⟩
          rcases find_run hd hk hv es rs (i + 1) r hrest hf with ⟨rfl, hn'⟩ | ⟨j, c', b', u, rfl, hle, g1, g2, g3, g4⟩
          · refine .inl ⟨rfl, ?_⟩
            simp only [Instr.findNow, hn, hq', hn']
          · refine .inr ⟨j, c', b', u, rfl, by omega, ?_, ?_, g3, ?_⟩
            · rw [show j - i = (j - (i + 1)) + 1 by omega]; simpa using g1
            · rw [show j - i = (j - (i + 1)) + 1 by omega]; simpa using g2
            · simp only [Instr.findNow, hn, hq', g4]
      · cases hf

theorem checkKey_run {ks : Bool} {d : TypeDesc} {kt : TypeId} {k : CV} {v : Value} (ht : P.underlying kt = some d) (hd : KeyD ks d) (hk : isKey ks k = true) (hv : VR fid X w k v) (em : Bool) (n : Nat) :
    (Instr.checkKey em (n + 1) kt v).run P w = .ok () w := by
  rcases hd with ⟨_, q, rfl⟩ | ⟨_, rfl⟩ <;> cases k <;> simp [isKey] at hk
  all_goals first
    | (rw [hv.int_inv]; simp [Instr.checkKey, run_underlying ht])
    | (rw [hv.str_inv]; simp [Instr.checkKey, run_underlying ht])

theorem findKey_run {d : TypeDesc} {kt : TypeId} {v : Value} {es : List MapEntry} {r : Option (Nat × Value)} (ht : P.underlying kt = some d) (h : Instr.findNow d v es 0 = some r) :
    (Instr.findKey kt v es).run P w = .ok r w := by
  simp [Instr.findKey, run_underlying ht, h]

theorem Sim.mapAt (h : Sim fid N w0 X cw w) {b : Nat} {es : List (CV × CV × Nat)} {clock : Nat} (hg : cw.get b = some (.map es clock)) :
    ∃ m res, X.M b = some m ∧ w.heap[m.1]? = some (.map res clock) ∧ EntR fid X w es res.toList := by
  obtain ⟨m, hm, res, h1, h2, h3⟩ := h.get hg
  exact ⟨m, res, hm, h1, by simpa using h2, fun i e he => by simpa using h3 i e he⟩

theorem putObj_upd {r : Nat} {es : Array MapEntry} {clock : Nat} {o : Obj} (h : w.heap[r]? = some (.map es clock)) : Upd w r o { w with heap := w.heap.setIfInBounds r o } := by
  have := heap_lt h
  refine ⟨rfl, rfl, rfl, by simp, ?_, fun k hk => ?_⟩
  · show (w.heap.setIfInBounds r o)[r]? = _
    rw [Array.getElem?_setIfInBounds_self_of_lt this]
  · show (w.heap.setIfInBounds r o)[k]? = _
    rw [Array.getElem?_setIfInBounds_ne (by omega)]

theorem map_val {b : Nat} {v : Value} (hv : VR fid X w (.map b) v) {m : Nat × Nat × Nat} (hm : X.M b = some m) : v = .map (some m.1) := by
  cases hv with
  | map h1 h2 => rw [h2 m hm]

theorem mkmap_ok {t : TypeId} (hS : Sim fid N w0 X cw w) : OpOk fid N w0 X P (do pure (.value (← Instr.makeMap t none))) w (.map cw.next) (cw.push (.map [] 0)) := by
  have := hS.mut (o := .map [] 0) (ob := .map #[] 0) (base := 0) (e := 0) fun _ => ⟨#[], by show (w.heap.push _)[w.heap.size]? = _; simp, rfl, fun i e he => by simp at he⟩
  refine OpOk.val (v := .map (some w.heap.size)) ?_ this.1 this.2 (.map (by show cw.next < X.nx + 1; rw [hS.nx]; omega) fun m hm => ?_)
  · simp [Instr.makeMap]
  · have : (if cw.next = X.nx then some (w.heap.size, 0, 0) else X.M cw.next) = some m := hm
    rw [if_pos hS.nx.symm] at this
    cases this; rfl

theorem look_ok {t kt e : TypeId} {ks ok : Bool} {x k z : CV} {vx vk zv : Value} {i : TypeInfo} {r : Option (Nat × CV × Nat)} (hS : Sim fid N w0 X cw w) (ht : P.underlying t = some (.map kt e)) (hks : isKeyT P kt = some ks) (hi : P.info? e = some i) (hz : i.zero = some zv) (hzc : cvOf zv = some z)
    (hx : VR fid X w x vx) (hk : VR fid X w k vk) (hik : isKey ks k = true)
    (hr : (x = .nilm ∧ r = none) ∨ ∃ b es clock, x = .map b ∧ cw.get b = some (.map es clock) ∧ findE k es 0 = some r) :
    OpOk fid N w0 X P (do pure (.value (← Instr.lookup t vx vk ok))) w (match r with | some (_, v, _) => (if ok then .tup [v, .bool true] else v) | none => (if ok then .tup [z, .bool false] else z)) cw := by
  obtain ⟨d, hd, hkd⟩ := isKeyT_spec hks
  have hzr : (zeroValue e).run P w = .ok zv w := by simp [zeroValue, typeInfo, hi, hz]
  have pair : ∀ (c : CV) (u : Value) (b : Bool), VR fid X w c u → VR fid X w (.tup [c, .bool b]) (.tuple #[u, .bool b]) := by
    intro c u b hu
    refine .tup rfl fun i c' hc => ?_
    match i with
    | 0 => simp at hc; subst hc; exact hu
    | 1 => simp at hc; subst hc; exact .bool b
    | n + 2 => simp at hc
  rcases hr with ⟨rfl, rfl⟩ | ⟨b, es, clock, rfl, hg, hf⟩
  · cases hx
    have hck := checkKey_run (P := P) hd hkd hik hk true 9999
    have hfk := findKey_run (P := P) (w := w) (v := vk) (es := []) (r := none) hd rfl
    cases ok
    · refine OpOk.pur (v := zv) hS ?_ (cvOf_vr hzc)
      simp [Instr.lookup, run_underlying ht, hck, hfk, hzr]
    · refine OpOk.pur (v := .tuple #[zv, .bool false]) hS ?_ (pair _ _ _ (cvOf_vr hzc))
      simp [Instr.lookup, run_underlying ht, hck, hfk, hzr]
  · obtain ⟨m, res, hm, hh, hent⟩ := hS.mapAt hg
    rw [map_val hx hm]
    have hck := fun em => checkKey_run (P := P) hd hkd hik hk em 9999
    rcases find_run hkd hik hk es res.toList 0 r hent hf with ⟨rfl, hn⟩ | ⟨j, c, b', u, rfl, _, g1, g2, g3, g4⟩
    · have hfk := findKey_run (P := P) (w := w) hd hn
      cases ok
      · refine OpOk.pur (v := zv) hS ?_ (cvOf_vr hzc)
        simp [Instr.lookup, run_underlying ht, getMap hh, hck, hfk, hzr]
      · refine OpOk.pur (v := .tuple #[zv, .bool false]) hS ?_ (pair _ _ _ (cvOf_vr hzc))
        simp [Instr.lookup, run_underlying ht, getMap hh, hck, hfk, hzr]
    · have hfk := findKey_run (P := P) (w := w) hd g4
      cases ok
      · refine OpOk.pur (v := u) hS ?_ g3
        simp [Instr.lookup, run_underlying ht, getMap hh, hck, hfk]
      · refine OpOk.pur (v := .tuple #[u, .bool true]) hS ?_ (pair _ _ _ g3)
        simp [Instr.lookup, run_underlying ht, getMap hh, hck, hfk]

theorem stays_run {ks : Bool} {k : CV} {v u : Value} (hik : isKey ks k = true) (hv : VR fid X w k v) (hu : VR fid X w k u) : (Instr.keyThatStays u v).run P w = .ok v w := by
  cases k <;> simp [isKey] at hik
  · rw [hv.int_inv, hu.int_inv]; simp [Instr.keyThatStays, Instr.sameBits]
  · rw [hv.str_inv, hu.str_inv]
    rename_i l
    have : (ByteArray.mk l.toArray == ByteArray.mk l.toArray) = true := by
      rw [beq_toListBytes]; exact beq_self_eq_true _
    simp only [Instr.keyThatStays, Instr.sameBits, this]
    rfl

/-- A map is written. -/
theorem map_upd (hS : Sim fid N w0 X cw w) {b : Nat} {m : Nat × Nat × Nat} {es' : List (CV × CV × Nat)} {res res' : Array MapEntry} {clock clock' : Nat} (hm : X.M b = some m) (hh : w.heap[m.1]? = some (.map res clock))
    (hent : EntR fid X w es' res'.toList) : Sim fid N w0 X (cw.set b (.map es' clock')) { w with heap := w.heap.setIfInBounds m.1 (.map res' clock') } ∧ Ext X w X { w with heap := w.heap.setIfInBounds m.1 (.map res' clock') } := by
  have hu := putObj_upd (o := .map res' clock') hh
  have ex := hS.upd_ext hm hu
  refine hS.upd hm hu ⟨res', hu.here, by simpa using hent.1, fun i e he => ?_⟩
  obtain ⟨r, g1, g2, g3, g4⟩ := hent.2 i e he
  exact ⟨r, by simpa using g1, g2, g3.mono ex, g4.mono ex⟩

theorem EntR.modify {es : List (CV × CV × Nat)} {rs : List MapEntry} (h : EntR fid X w es rs) (j : Nat) {f : CV × CV × Nat → CV × CV × Nat} {g : MapEntry → MapEntry}
    (hfg : ∀ e r, es[j]? = some e → rs[j]? = some r → r.born = e.2.2 → VR fid X w e.1 r.key → VR fid X w e.2.1 r.val → (g r).born = (f e).2.2 ∧ VR fid X w (f e).1 (g r).key ∧ VR fid X w (f e).2.1 (g r).val) :
    EntR fid X w (es.modify j f) (rs.modify j g) := by
  refine ⟨by simp [h.1], fun i e he => ?_⟩
  simp only [List.getElem?_modify, Option.map_eq_map, Option.map_eq_some_iff] at he ⊢
  obtain ⟨e', he', rfl⟩ := he
  obtain ⟨r, g1, g2, g3, g4⟩ := h.2 i e' he'
  by_cases hij : j = i
  · subst hij
    simp only [if_true]
    exact ⟨g r, ⟨r, g1, rfl⟩, hfg e' r he' g1 g2 g3 g4⟩
  · simp only [if_neg hij]
    exact ⟨r, ⟨r, g1, rfl⟩, g2, g3, g4⟩

theorem EntR.push {es : List (CV × CV × Nat)} {rs : List MapEntry} (h : EntR fid X w es rs) {k v : CV} {rk rv : Value} {b : Nat} (hk : VR fid X w k rk) (hv : VR fid X w v rv) :
    EntR fid X w (es ++ [(k, v, b)]) (rs ++ [{ key := rk, val := rv, born := b }]) := by
  refine ⟨by simp [h.1], fun i e he => ?_⟩
  by_cases hi : i < es.length
  · rw [List.getElem?_append_left hi] at he
    rw [List.getElem?_append_left (by rw [h.1]; exact hi)]
    exact h.2 i e he
  · rw [List.getElem?_append_right (by omega)] at he
    rw [List.getElem?_append_right (by rw [h.1]; omega), h.1]
    have : i - es.length = 0 := by
      have := (List.getElem?_eq_some_iff.1 he).1
      simp at this; omega
    rw [this] at he ⊢
    simp at he
    subst he
    exact ⟨_, rfl, rfl, hk, hv⟩

theorem EntR.erase {es : List (CV × CV × Nat)} {rs : List MapEntry} (h : EntR fid X w es rs) (j : Nat) : EntR fid X w (es.eraseIdx j) (rs.eraseIdx j) := by
  refine ⟨by rw [List.length_eraseIdx, List.length_eraseIdx, h.1], fun i e he => ?_⟩
  rw [List.getElem?_eraseIdx] at he ⊢
  split at he
  · rename_i hi; rw [if_pos hi]; exact h.2 i e he
  · rename_i hi; rw [if_neg hi]; exact h.2 (i + 1) e he

theorem mupd_ok {t kt e : TypeId} {ks : Bool} {k v : CV} {vm vk vv : Value} {b clock : Nat} {es : List (CV × CV × Nat)} {r : Option (Nat × CV × Nat)} (hS : Sim fid N w0 X cw w) (ht : P.underlying t = some (.map kt e)) (hks : isKeyT P kt = some ks)
    (hx : VR fid X w (.map b) vm) (hk : VR fid X w k vk) (hv : VR fid X w v vv) (hik : isKey ks k = true) (hg : cw.get b = some (.map es clock)) (hf : findE k es 0 = some r) :
    OpOk fid N w0 X P (do Instr.mapUpdate t vm vk vv; pure .skip) w (.tup [])
      (match r with | some (i, _, _) => cw.set b (.map (es.modify i fun e => (e.1, v, e.2.2)) clock) | none => cw.set b (.map (es ++ [(k, v, clock)]) (clock + 1))) := by
  obtain ⟨d, hd, hkd⟩ := isKeyT_spec hks
  obtain ⟨m, res, hm, hh, hent⟩ := hS.mapAt hg
  rw [map_val hx hm]
  have hck := fun em => checkKey_run (P := P) hd hkd hik hk em 9999
  rcases find_run hkd hik hk es res.toList 0 r hent hf with ⟨rfl, hn⟩ | ⟨j, c, b', u, rfl, _, g1, g2, g3, g4⟩
  · have hfk := findKey_run (P := P) (w := w) hd hn
    obtain ⟨s, ex⟩ := map_upd hS hm hh (es' := es ++ [(k, v, clock)]) (res' := res.push { key := vk, val := vv, born := clock }) (clock' := clock + 1) (by rw [Array.toList_push]; exact hent.push hk hv)
    refine OpOk.unit ?_ s ex
    simp [Instr.mapUpdate, run_underlying ht, getMap hh, hck, hfk, setMap _ hh]
  · have hfk := findKey_run (P := P) (w := w) hd g4
    simp only [Nat.sub_zero] at g1 g2
    obtain ⟨e0, he0, _⟩ := Option.map_eq_some_iff.1 g2
    have hkey : VR fid X w k e0.key := by
      obtain ⟨r', q1, q2, q3, q4⟩ := hent.2 j _ g1
      rw [he0] at q1; cases q1; exact q3
    have hst := stays_run (P := P) hik hk hkey
    have he0' : res[j]? = some e0 := by simpa using he0
    obtain ⟨s, ex⟩ := map_upd hS hm hh (es' := es.modify j fun e => (e.1, v, e.2.2)) (res' := res.modify j fun e => { e with key := vk, val := vv }) (clock' := clock) (by
      rw [Array.toList_modify]
      refine hent.modify j fun e' r' h1 h2 h3 h4 h5 => ⟨h3, ?_, hv⟩
      rw [g1] at h1; cases h1; exact hk)
    refine OpOk.unit ?_ s ex
    simp [Instr.mapUpdate, run_underlying ht, getMap hh, hck, hfk, he0', hst, setMap _ hh]

theorem ment_ok {t kt e : TypeId} {ks : Bool} {k z : CV} {vm vk zv : Value} {b clock : Nat} {es : List (CV × CV × Nat)} {i : TypeInfo} {r : Option (Nat × CV × Nat)} (hS : Sim fid N w0 X cw w) (ht : P.underlying t = some (.map kt e)) (hks : isKeyT P kt = some ks)
    (hi : P.info? e = some i) (hz : i.zero = some zv) (hzc : cvOf zv = some z)
    (hx : VR fid X w (.map b) vm) (hk : VR fid X w k vk) (hik : isKey ks k = true) (hg : cw.get b = some (.map es clock)) (hf : findE k es 0 = some r) :
    OpOk fid N w0 X P (do pure (.value (← Instr.mapEntry t vm vk))) w (match r with | some (_, v, born) => .tup [v, .int .i64 born] | none => .tup [z, .int .i64 clock])
      (match r with | some _ => cw.set b (.map es clock) | none => cw.set b (.map (es ++ [(k, z, clock)]) (clock + 1))) := by
  obtain ⟨d, hd, hkd⟩ := isKeyT_spec hks
  obtain ⟨m, res, hm, hh, hent⟩ := hS.mapAt hg
  rw [map_val hx hm]
  have hzr : (zeroValue e).run P w = .ok zv w := by simp [zeroValue, typeInfo, hi, hz]
  have hzv : VR fid X w z zv := cvOf_vr hzc
  have pair : ∀ (X' : Cx) (w' : World) (c : CV) (u : Value) (n : Int), VR fid X' w' c u → VR fid X' w' (.tup [c, .int .i64 n]) (.tuple #[u, goInt n]) := by
    intro X' w' c u n hu
    refine .tup rfl fun i c' hc => ?_
    match i with
    | 0 => simp at hc; subst hc; exact hu
    | 1 => simp at hc; subst hc; exact .int _ _
    | n + 2 => simp at hc
  have hck := fun em => checkKey_run (P := P) hd hkd hik hk em 9999
  rcases find_run hkd hik hk es res.toList 0 r hent hf with ⟨rfl, hn⟩ | ⟨j, c, b', u, rfl, _, g1, g2, g3, g4⟩
  · have hfk := findKey_run (P := P) (w := w) hd hn
    obtain ⟨s, ex⟩ := map_upd hS hm hh (es' := es ++ [(k, z, clock)]) (res' := res.push { key := vk, val := zv, born := clock }) (clock' := clock + 1) (by rw [Array.toList_push]; exact hent.push hk hzv)
    refine OpOk.val (v := .tuple #[zv, goInt clock]) ?_ s ex (pair _ _ _ _ _ (hzv.mono ex))
    simp [Instr.mapEntry, run_underlying ht, getMap hh, hck, hfk, hzr, setMap _ hh]
  · have hfk := findKey_run (P := P) (w := w) hd g4
    simp only [Nat.sub_zero] at g1 g2
    obtain ⟨e0, he0, hu0⟩ := Option.map_eq_some_iff.1 g2
    obtain ⟨r', q1, q2, q3, q4⟩ := hent.2 j _ g1
    rw [he0] at q1; cases q1
    have hst := stays_run (P := P) hik hk q3
    have he0' : res[j]? = some e0 := by simpa using he0
    obtain ⟨s, ex⟩ := map_upd hS hm hh (es' := es) (res' := res.modify j fun e => { e with key := vk }) (clock' := clock) (by
      rw [Array.toList_modify]
      have := hent.modify j (f := id) (g := fun e => { e with key := vk }) fun e' r' h1 h2 h3 h4 h5 => ⟨h3, by
        rw [g1] at h1; cases h1; exact hk, h5⟩
      have hid : es.modify j id = es := by
        apply List.ext_getElem?
        intro i
        rw [List.getElem?_modify]
        cases es[i]? <;> simp
      rwa [hid] at this)
    refine OpOk.val (v := .tuple #[u, goInt b']) ?_ s ex (pair _ _ _ _ _ (g3.mono ex))
    have : e0.born = b' := q2
    simp [Instr.mapEntry, run_underlying ht, getMap hh, hck, hfk, he0', hst, setMap _ hh, this]

theorem findIdx_born {es : List (CV × CV × Nat)} {rs : List MapEntry} (h : EntR fid X w es rs) (s : Int) : rs.findIdx? (fun e => (e.born : Int) == s) = es.findIdx? (fun e => (e.2.2 : Int) == s) := by
  have hl : rs.map (·.born) = es.map (·.2.2) := by
    apply List.ext_getElem?
    intro i
    simp only [List.getElem?_map]
    cases he : es[i]? with
    | none =>
      have : rs[i]? = none := by rw [List.getElem?_eq_none_iff] at he ⊢; rw [h.1]; exact he
      rw [this]; rfl
    | some e =>
      obtain ⟨r, g1, g2, _⟩ := h.2 i e he
      rw [g1]; simp [g2]
  have e1 : rs.findIdx? (fun e => (e.born : Int) == s) = (rs.map (·.born)).findIdx? (fun b : Nat => (b : Int) == s) := by rw [List.findIdx?_map]; rfl
  have e2 : es.findIdx? (fun e => (e.2.2 : Int) == s) = (es.map (·.2.2)).findIdx? (fun b : Nat => (b : Int) == s) := by rw [List.findIdx?_map]; rfl
  rw [e1, e2, hl]

theorem mset_ok {t : TypeId} {sv v : CV} {vm vs vv : Value} {b clock : Nat} {es : List (CV × CV × Nat)} {s : Int} {i : Nat} (hS : Sim fid N w0 X cw w) (hx : VR fid X w (.map b) vm) (hs : VR fid X w sv vs) (his : intV sv = some s)
    (hv : VR fid X w v vv) (hg : cw.get b = some (.map es clock)) (hf : es.findIdx? (fun e => (e.2.2 : Int) == s) = some i) :
    OpOk fid N w0 X P (do Instr.entryStore t vm vs vv; pure .skip) w (.tup []) (cw.set b (.map (es.modify i fun e => (e.1, v, e.2.2)) clock)) := by
  obtain ⟨m, res, hm, hh, hent⟩ := hS.mapAt hg
  rw [map_val hx hm]
  obtain ⟨k, rfl⟩ := intV_inv his hs
  have hidx : res.findIdx? (fun e => (e.born : Int) == s) = some i := by
    rw [← hf, ← findIdx_born hent s]
    cases res
    simp
  obtain ⟨s', ex⟩ := map_upd hS hm hh (es' := es.modify i fun e => (e.1, v, e.2.2)) (res' := res.modify i fun e => { e with val := vv }) (clock' := clock) (by
    rw [Array.toList_modify]
    exact hent.modify i fun e' r' h1 h2 h3 h4 h5 => ⟨h3, h4, hv⟩)
  refine OpOk.unit ?_ s' ex
  simp [Instr.entryStore, getMap hh, asInt, asIntOf, hidx, setMap _ hh]

theorem mdel_ok {t kt e u ty : TypeId} {ks : Bool} {k : CV} {vm vk : Value} {b clock : Nat} {es : List (CV × CV × Nat)} {r : Option (Nat × CV × Nat)} (hS : Sim fid N w0 X cw w) (ht : P.underlying t = some (.map kt e)) (hks : isKeyT P kt = some ks)
    (hx : VR fid X w (.map b) vm) (hk : VR fid X w k vk) (hik : isKey ks k = true) (hg : cw.get b = some (.map es clock)) (hf : findE k es 0 = some r) :
    OpOk fid N w0 X P (do pure (.value (← Builtin.delete_ #[t, u] ty #[vm, vk]))) w (.tup [])
      (match r with | some (i, _, _) => cw.set b (.map (es.eraseIdx i) clock) | none => cw.set b (.map es clock)) := by
  obtain ⟨d, hd, hkd⟩ := isKeyT_spec hks
  obtain ⟨m, res, hm, hh, hent⟩ := hS.mapAt hg
  rw [map_val hx hm]
  have hck := fun em => checkKey_run (P := P) hd hkd hik hk em 9999
  rcases find_run hkd hik hk es res.toList 0 r hent hf with ⟨rfl, hn⟩ | ⟨j, c, b', u', rfl, _, g1, g2, g3, g4⟩
  · have hfk := findKey_run (P := P) (w := w) hd hn
    obtain ⟨s, ex⟩ := map_upd hS hm hh (es' := es) (res' := res) (clock' := clock) hent
    refine OpOk.val (v := .tuple #[]) ?_ s ex .tup0
    simp [Builtin.delete_, run_underlying ht, getMap hh, hck, hfk, setMap _ hh]
  · have hfk := findKey_run (P := P) (w := w) hd g4
    obtain ⟨s, ex⟩ := map_upd hS hm hh (es' := es.eraseIdx j) (res' := res.eraseIdxIfInBounds j) (clock' := clock) (by
      rw [Array.toList_eraseIdxIfInBounds]
      exact hent.erase j)
    refine OpOk.val (v := .tuple #[]) ?_ s ex .tup0
    simp [Builtin.delete_, run_underlying ht, getMap hh, hck, hfk, setMap _ hh]

theorem mdel_nil {t kt e u ty : TypeId} {ks : Bool} {k : CV} {vk : Value} (hS : Sim fid N w0 X cw w) (ht : P.underlying t = some (.map kt e)) (hks : isKeyT P kt = some ks)
    (hk : VR fid X w k vk) (hik : isKey ks k = true) : OpOk fid N w0 X P (do pure (.value (← Builtin.delete_ #[t, u] ty #[.map none, vk]))) w (.tup []) cw := by
  obtain ⟨d, hd, hkd⟩ := isKeyT_spec hks
  have hck := fun em => checkKey_run (P := P) hd hkd hik hk em 9999
  refine OpOk.pur (v := .tuple #[]) hS ?_ .tup0
  simp [Builtin.delete_, run_underlying ht, hck]

theorem mclr_ok {t kt e ty : TypeId} {vm : Value} {b clock : Nat} {es : List (CV × CV × Nat)} (hS : Sim fid N w0 X cw w) (ht : P.underlying t = some (.map kt e)) (hx : VR fid X w (.map b) vm)
    (hg : cw.get b = some (.map es clock)) : OpOk fid N w0 X P (do pure (.value (← Builtin.clear_ #[t] ty #[vm]))) w (.tup []) (cw.set b (.map [] clock)) := by
  obtain ⟨m, res, hm, hh, hent⟩ := hS.mapAt hg
  rw [map_val hx hm]
  obtain ⟨s, ex⟩ := map_upd hS hm hh (es' := []) (res' := #[]) (clock' := clock) ⟨rfl, fun i e he => by simp at he⟩
  refine OpOk.val (v := .tuple #[]) ?_ s ex .tup0
  simp [Builtin.clear_, run_underlying ht, getMap hh, setMap _ hh]

theorem lenM_ok {t kt e ty : TypeId} {vm : Value} {b clock : Nat} {es : List (CV × CV × Nat)} (hS : Sim fid N w0 X cw w) (ht : P.underlying t = some (.map kt e)) (hx : VR fid X w (.map b) vm)
    (hg : cw.get b = some (.map es clock)) : OpOk fid N w0 X P (do pure (.value (← Builtin.len_ #[t] ty #[vm]))) w (.int .i64 es.length) cw := by
  obtain ⟨m, res, hm, hh, hent⟩ := hS.mapAt hg
  rw [map_val hx hm]
  have : res.size = es.length := by simpa using hent.1
  refine OpOk.pur (v := .int .i64 es.length) hS ?_ (.int _ _)
  simp [Builtin.len_, run_underlying ht, getMap hh, goInt, this]

end Go.Cs

/- Every operation that is no call. -/
namespace Go.Cs
open Go.RowKit (Below)
variable {P : Program} {fid : FuncId → Option Nat} {N : Nat} {w0 : World} {X : Cx} {cw : CW} {w : World} {ρ : Env} {a : Act}

theorem isKeyT_some {t : TypeId} {f : Bool → Option ROp} {ro : ROp} (h : ((isKeyT P t).bind f) = some ro) : ∃ ks, isKeyT P t = some ks ∧ f ks = some ro := by
  simpa only [Option.bind_eq_some_iff] using h

theorem ts_one {ts : Array TypeId} {t : TypeId} (h : ts[0]? = some t) {α : Type} (f : Option TypeId → α) : f ts[0]? = f (some t) := by rw [h]

theorem zeroOf_zero {e : TypeId} {z : List CV} {i : TypeInfo} (h : zeroOf P e = some z) (hi : P.info? e = some i) : ∃ zv, i.zero = some zv ∧ zv.cells.size = i.size := by
  unfold zeroOf at h
  rw [hi] at h
  simp only at h
  split at h
  · rename_i zv hz
    split at h
    · rename_i hs; exact ⟨zv, hz, hs⟩
    · cases h
  · cases h

theorem len_ok {ts : Array TypeId} {ty t : TypeId} {v : Value} {n : Int} (hS : Sim fid N w0 X cw w) (h : (Builtin.len_ ts ty #[v]).run P w = .ok (.int .i64 n) w) :
    OpOk fid N w0 X P (do pure (.value (← Builtin.len_ ts ty #[v]))) w (.int .i64 n) cw := OpOk.pur hS h (.int _ _)

theorem op_len {x : Operand} {ts : Array TypeId} {ty : TypeId} {ro : ROp} {c : CV} {cw' : CW} (hr : resBuiltin P fid .len ts [x] = some ro)
    (hE : EnvR fid X w ρ a) (hS : Sim fid N w0 X cw w) (hs : stepOp ro (ev ρ) cw = some (c, cw')) : OpOk fid N w0 X P (do pure (.value (← Builtin.len_ ts ty #[a.eval x]))) w c cw' := by
  simp only [resBuiltin, Option.bind_eq_some_iff] at hr
  obtain ⟨t, ht, y, hy, hr⟩ := hr
  split at hr
  · rename_i hu
    cases hr
    simp only [stepOp] at hs
    split at hs <;> cases hs
    rename_i l he
    rw [(rx_vr hy he hE).str_inv]
    have hsz : (ByteArray.mk l.toArray).size = l.length := by simp [ByteArray.size]
    exact OpOk.pur (v := .int .i64 l.length) hS (by simp only [Builtin.len_, ht, List.getElem?_toArray, List.getElem?_cons_zero, Sem.run_bind, run_underlying hu, Result.andThen_ok, hsz]; rfl) (.int _ _)
  · rename_i e hu
    cases hr
    simp only [stepOp] at hs
    have key : ∀ (n : Nat) (base : Option Addr) (cap : Nat), (Builtin.len_ ts ty #[.slice base n cap]).run P w = .ok (.int .i64 n) w := by
      intro n base cap
      simp [Builtin.len_, ht, run_underlying hu, goInt]
    split at hs <;> cases hs
    · rename_i he
      have hv := rx_vr hy he hE
      generalize a.eval x = v at hv ⊢
      cases hv
      exact OpOk.pur (v := .int .i64 0) hS (key 0 none 0) (.int _ _)
    · rename_i n _ he
      have hv := rx_vr hy he hE
      generalize a.eval x = v at hv ⊢
      cases hv
      exact OpOk.pur hS (key n _ _) (.int _ _)
    · rename_i n _ he
      have hv := rx_vr hy he hE
      generalize a.eval x = v at hv ⊢
      cases hv
      exact OpOk.pur hS (key n _ _) (.int _ _)
  · rename_i n e hu
    cases hr
    simp only [stepOp] at hs
    cases hs
    exact OpOk.pur (v := .int .i64 n) hS (by simp [Builtin.len_, ht, run_underlying hu, goInt]) (.int _ _)
  · rename_i p hu
    split at hr
    · rename_i n e hu2
      cases hr
      simp only [stepOp] at hs
      cases hs
      exact OpOk.pur (v := .int .i64 n) hS (by simp [Builtin.len_, ht, run_underlying hu, run_underlying hu2, goInt]) (.int _ _)
    · cases hr
  · rename_i kt e hu
    cases hr
    have ht' : ts[0]? = some t := ht
    simp only [stepOp] at hs
    have e1 : ∀ v, (Builtin.len_ ts ty #[v]) = Builtin.len_ #[t] ty #[v] := fun v => by simp [Builtin.len_, ht']
    rw [e1]
    split at hs
    · rename_i he
      cases hs
      have hv := rx_vr hy he hE
      generalize a.eval x = v at hv ⊢
      cases hv
      exact OpOk.pur (v := .int .i64 0) hS (by simp [Builtin.len_, run_underlying hu, goInt]) (.int _ _)
    · rename_i b he
      split at hs
      · rename_i es clock hg
        cases hs
        exact lenM_ok hS hu (rx_vr hy he hE) hg
      · cases hs
    · cases hs
  · cases hr

theorem op_append {x y : Operand} {ts : Array TypeId} {ty : TypeId} {ro : ROp} {c : CV} {cw' : CW} (hr : resBuiltin P fid .append ts [x, y] = some ro)
    (hE : EnvR fid X w ρ a) (hS : Sim fid N w0 X cw w) (hs : stepOp ro (ev ρ) cw = some (c, cw')) : OpOk fid N w0 X P (do pure (.value (← Builtin.append_ ts ty #[a.eval x, a.eval y]))) w c cw' := by
  simp only [resBuiltin, Option.bind_eq_some_iff] at hr
  obtain ⟨t, ht, u, hu, x', hx, y', hy, hr⟩ := hr
  have e1 : ∀ v v', (Builtin.append_ ts ty #[v, v']) = Builtin.append_ #[t, u] ty #[v, v'] := fun v v' => by simp [Builtin.append_, ht, hu]
  rw [e1]
  split at hr
  · rename_i e d htu hud
    simp only [Option.bind_eq_some_iff] at hr
    obtain ⟨i, hi, hr⟩ := hr
    split at hr
    · cases hr
    · rename_i hno
      simp only [Option.bind_eq_some_iff] at hr
      obtain ⟨z, hzz, hr⟩ := hr
      have hz := zeroOf_zero hzz hi
      split at hr
      · rename_i e'
        cases hr
        simp only [stepOp, Option.bind_eq_some_iff] at hs
        obtain ⟨xv, hxv, yv, hyv, p, hp, hs⟩ := hs
        exact app_ok hS htu hud (.inl ⟨_, rfl⟩) hi hno hz (rx_vr hx hxv hE) (rx_vr hy hyv hE) hp hs
      · split at hr
        · rename_i h1
          cases hr
          simp only [stepOp, Option.bind_eq_some_iff] at hs
          obtain ⟨xv, hxv, yv, hyv, p, hp, hs⟩ := hs
          rw [← h1] at hp hs
          exact app_ok hS htu hud (.inr rfl) hi hno hz (rx_vr hx hxv hE) (rx_vr hy hyv hE) hp hs
        · cases hr
      · cases hr
        simp only [stepOp, Option.bind_eq_some_iff] at hs
        obtain ⟨xv, hxv, nv, hnv, n, hn, hs⟩ := hs
        split at hs
        · rename_i hb
          exact appZ_ok hS htu hud hi hno hzz (rx_vr hx hxv hE) (rx_vr hy hnv hE) hn hb.1 hb.2 hs
        · cases hs
      · cases hr
  · cases hr

theorem op_copy {x y : Operand} {ts : Array TypeId} {ty : TypeId} {ro : ROp} {c : CV} {cw' : CW} (hr : resBuiltin P fid .copy ts [x, y] = some ro)
    (hE : EnvR fid X w ρ a) (hS : Sim fid N w0 X cw w) (hs : stepOp ro (ev ρ) cw = some (c, cw')) : OpOk fid N w0 X P (do pure (.value (← Builtin.copy_ ts ty #[a.eval x, a.eval y]))) w c cw' := by
  simp only [resBuiltin, Option.bind_eq_some_iff] at hr
  obtain ⟨t, ht, x', hx, y', hy, hr⟩ := hr
  have e1 : ∀ v v', (Builtin.copy_ ts ty #[v, v']) = Builtin.copy_ #[t, t] ty #[v, v'] := fun v v' => by simp [Builtin.copy_, ht]
  rw [e1]
  split at hr
  · rename_i e hu
    simp only [Option.bind_eq_some_iff] at hr
    obtain ⟨n, hn, hr⟩ := hr
    split at hr
    · cases hr
    · cases hr
      simp only [stepOp, Option.bind_eq_some_iff] at hs
      obtain ⟨xv, hxv, yv, hyv, p, hp, hs⟩ := hs
      have hvx := rx_vr hx hxv hE
      have hvy := rx_vr hy hyv hE
      split at hs
      · cases hs
        generalize a.eval x = v at hvx ⊢
        cases hvx
        exact copy_none hS hu hn rfl hvy hp (by simp)
      · split at hs
        · rename_i h0
          cases hs
          obtain ⟨r, o, cap, hv, _⟩ := hvx.vec_inv
          exact copy_none hS hu hn hv hvy hp h0
        · cases hs
      · split at hs
        · cases hs
        · rename_i hsz
          have hsz := Classical.not_not.1 hsz
          subst hsz
          split at hs
          · rename_i cs hg
            split at hs
            · rename_i hle
              cases hs
              exact copy_ok hS hu hn hvx hvy hp hg hle
            · cases hs
          · cases hs
      · cases hs
  · cases hr

theorem op_clear {x : Operand} {ts : Array TypeId} {ty : TypeId} {ro : ROp} {c : CV} {cw' : CW} (hr : resBuiltin P fid .clear ts [x] = some ro)
    (hE : EnvR fid X w ρ a) (hS : Sim fid N w0 X cw w) (hs : stepOp ro (ev ρ) cw = some (c, cw')) : OpOk fid N w0 X P (do pure (.value (← Builtin.clear_ ts ty #[a.eval x]))) w c cw' := by
  simp only [resBuiltin, Option.bind_eq_some_iff] at hr
  obtain ⟨t, ht, x', hx, hr⟩ := hr
  have e1 : ∀ v, (Builtin.clear_ ts ty #[v]) = Builtin.clear_ #[t] ty #[v] := fun v => by simp [Builtin.clear_, ht]
  rw [e1]
  split at hr
  · rename_i e hu
    simp only [Option.bind_eq_some_iff] at hr
    obtain ⟨n, hn, z, hz, hr⟩ := hr
    split at hr
    · cases hr
    · cases hr
      simp only [stepOp, Option.bind_eq_some_iff] at hs
      obtain ⟨xv, hxv, hs⟩ := hs
      have hvx := rx_vr hx hxv hE
      split at hs
      · cases hs
        generalize a.eval x = v at hvx ⊢
        cases hvx
        exact clr_none hS hu rfl
      · split at hs
        · rename_i h0
          cases hs
          subst h0
          obtain ⟨r, o, cap, hv, _⟩ := hvx.vec_inv
          exact clr_none hS hu hv
        · cases hs
      · split at hs
        · cases hs
        · rename_i hsz
          have hsz := Classical.not_not.1 hsz
          subst hsz
          split at hs
          · rename_i h0
            cases hs
            subst h0
            generalize a.eval x = v at hvx ⊢
            cases hvx
            exact clr_none hS hu rfl
          · rename_i h0
            split at hs
            · rename_i cs hg
              split at hs
              · rename_i hle
                cases hs
                exact clr_ok hS hu hz hvx h0 hg hle.1 hle.2
              · cases hs
            · cases hs
      · cases hs
  · rename_i kt e hu
    cases hr
    simp only [stepOp] at hs
    split at hs
    · rename_i he
      cases hs
      have hv := rx_vr hx he hE
      generalize a.eval x = v at hv ⊢
      cases hv
      exact OpOk.pur (v := .tuple #[]) hS (by simp [Builtin.clear_, run_underlying hu]) .tup0
    · rename_i b he
      split at hs
      · rename_i es clock hg
        cases hs
        exact mclr_ok hS hu (rx_vr hx he hE) hg
      · cases hs
    · cases hs
  · cases hr

theorem op_delete {x k : Operand} {ts : Array TypeId} {ty : TypeId} {ro : ROp} {c : CV} {cw' : CW} (hr : resBuiltin P fid .delete ts [x, k] = some ro)
    (hE : EnvR fid X w ρ a) (hS : Sim fid N w0 X cw w) (hs : stepOp ro (ev ρ) cw = some (c, cw')) : OpOk fid N w0 X P (do pure (.value (← Builtin.delete_ ts ty #[a.eval x, a.eval k]))) w c cw' := by
  simp only [resBuiltin, Option.bind_eq_some_iff] at hr
  obtain ⟨t, ht, x', hx, k', hk, hr⟩ := hr
  have e1 : ∀ v v', (Builtin.delete_ ts ty #[v, v']) = Builtin.delete_ #[t, t] ty #[v, v'] := fun v v' => by simp [Builtin.delete_, ht]
  rw [e1]
  split at hr
  · rename_i kt e hu
    obtain ⟨ks, hks, hr⟩ := isKeyT_some (f := fun ks => some (ROp.mdel ks x' k')) hr
    cases hr
    simp only [stepOp, Option.bind_eq_some_iff] at hs
    obtain ⟨m, hm, kv, hkv, hs⟩ := hs
    split at hs
    · rename_i hik
      have hvx := rx_vr hx hm hE
      have hvk := rx_vr hk hkv hE
      split at hs
      · cases hs
        generalize a.eval x = v at hvx ⊢
        cases hvx
        exact mdel_nil hS hu hks hvk hik
      · split at hs
        · rename_i es clock hg
          simp only [Option.bind_eq_some_iff] at hs
          obtain ⟨r, hf, hs⟩ := hs
          have := mdel_ok (P := P) (u := t) (ty := ty) hS hu hks hvx hvk hik hg hf
          cases r with
          | none => cases hs; exact this
          | some q => obtain ⟨i, v', b'⟩ := q; cases hs; exact this
        · cases hs
      · cases hs
    · cases hs
  · cases hr

theorem op_minmax {mxx : Bool} {x y : Operand} {ts : Array TypeId} {ty : TypeId} {ro : ROp} {c : CV} {cw' : CW} (hr : resBuiltin P fid (if mxx then .max else .min) ts [x, y] = some ro)
    (hE : EnvR fid X w ρ a) (hS : Sim fid N w0 X cw w) (hs : stepOp ro (ev ρ) cw = some (c, cw')) :
    OpOk fid N w0 X P (do pure (.value (← if mxx then Builtin.max_ ts ty #[a.eval x, a.eval y] else Builtin.min_ ts ty #[a.eval x, a.eval y]))) w c cw' := by
  cases mxx
  all_goals
    simp only [resBuiltin, Option.bind_eq_some_iff, Bool.false_eq_true, if_false, if_true] at hr ⊢
    obtain ⟨x', hx, y', hy, hr⟩ := hr
    cases hr
    simp only [stepOp] at hs
    obtain ⟨h1, rfl⟩ := pu_some hs
    simp only [Option.bind_eq_some_iff] at h1
    obtain ⟨xv, hxv, yv, hyv, h1⟩ := h1
    split at h1 <;> cases h1
    rw [(rx_vr hx hxv hE).int_inv, (rx_vr hy hyv hE).int_inv]
    refine OpOk.pur hS ?_ (.int _ _)
    simp [Builtin.max_, Builtin.min_, Builtin.max2, Builtin.min2]

theorem op_builtin {o : Oper} {b : Builtin} {args : Array Operand} {ts : Array TypeId} {ro : ROp} {c : CV} {cw' : CW} (hop : o.op = .call { callee := .builtin b, args := args, argTypes := ts })
    (hr : resBuiltin P fid b ts args.toList = some ro) (hE : EnvR fid X w ρ a) (hS : Sim fid N w0 X cw w) (hs : stepOp ro (ev ρ) cw = some (c, cw')) : OpOk fid N w0 X P (execOp a.eval o) w c cw' := by
  have hex : execOp a.eval o = (do let d ← resolve a.eval { callee := .builtin b, args := args, argTypes := ts } o.type; invoke d.target d.args : Sem Next) := by
    unfold execOp; rw [hop]
  rw [hex]
  simp only [resolve, pure_bind, invoke]
  have a1 : ∀ {x : Operand}, args.toList = [x] → args.map a.eval = #[a.eval x] := by
    intro x h
    have : args = #[x] := by cases args; simp at h; subst h; rfl
    subst this; simp
  have a2 : ∀ {x y : Operand}, args.toList = [x, y] → args.map a.eval = #[a.eval x, a.eval y] := by
    intro x y h
    have : args = #[x, y] := by cases args; simp at h; subst h; rfl
    subst this; simp
  have hr0 := hr
  unfold resBuiltin at hr
  split at hr
  · rename_i x hx
    rw [a1 hx]; rw [hx] at hr0
    exact op_len hr0 hE hS hs
  · rename_i x y hx
    rw [a2 hx]; rw [hx] at hr0
    exact op_append hr0 hE hS hs
  · rename_i x y hx
    rw [a2 hx]; rw [hx] at hr0
    exact op_copy hr0 hE hS hs
  · rename_i x hx
    rw [a1 hx]; rw [hx] at hr0
    exact op_clear hr0 hE hS hs
  · rename_i x y hx
    rw [a2 hx]; rw [hx] at hr0
    exact op_delete hr0 hE hS hs
  · rename_i x y hx
    rw [a2 hx]; rw [hx] at hr0
    exact op_minmax (mxx := true) hr0 hE hS hs
  · rename_i x y hx
    rw [a2 hx]; rw [hx] at hr0
    exact op_minmax (mxx := false) hr0 hE hS hs
  · cases hr

end Go.Cs

/- Every operation that is no call of a function. -/
namespace Go.Cs
open Go.RowKit (Below)
variable {P : Program} {fid : FuncId → Option Nat} {N : Nat} {w0 : World} {X : Cx} {cw : CW} {w : World} {ρ : Env} {a : Act}

theorem op_mov {x : Operand} {r : RX} {c : CV} {cw' : CW} (hr : rx fid x = some r) (hE : EnvR fid X w ρ a) (hS : Sim fid N w0 X cw w) (hs : stepOp (.mov r) (ev ρ) cw = some (c, cw')) :
    OpOk fid N w0 X P (pure (.value (a.eval x))) w c cw' := by
  simp only [stepOp] at hs
  obtain ⟨h1, rfl⟩ := pu_some hs
  exact ⟨_, w, X, .inl rfl, hS, .refl X w, rx_vr hr h1 hE⟩

theorem isU8_spec {e : TypeId} (h : isU8 P e = true) : P.underlying e = some (.int .u8) := by
  unfold isU8 at h
  split at h
  · assumption
  · cases h

theorem load_ok {t : TypeId} {q : Bool × Nat} {x : CV} {v : Value} {c : CV} {cw' : CW} (hS : Sim fid N w0 X cw w) (hq : tyOf P t = some q) (hx : VR fid X w x v)
    (h : (∃ b off cs, x = .ptr b off ∧ cw.get b = some (.cells cs) ∧ ldc q.1 q.2 cs off = some c) ∨ (∃ cs off, x = .row cs off ∧ ldc q.1 q.2 cs off = some c)) (hcw : cw' = cw) :
    OpOk fid N w0 X P (do pure (.value (← Instr.loadAt t v))) w c cw' := by
  subst hcw
  rcases h with ⟨b, off, cs, hx', hg, hl⟩ | ⟨cs, off, hx', hl⟩
  · obtain ⟨m, hm, hv, hr⟩ := (addr_ok hS hx).1 b off cs hx' hg
    subst hv
    obtain ⟨u, h1, h2⟩ := load_run (P := P) hq hr hl
    exact OpOk.pur hS (by simpa [Instr.loadAt, Instr.sureAddr] using h1) h2
  · obtain ⟨r, o, hv, hr⟩ := (addr_ok hS hx).2 cs off hx'
    subst hv
    obtain ⟨u, h1, h2⟩ := load_run (P := P) hq hr hl
    exact OpOk.pur hS (by simpa [Instr.loadAt, Instr.sureAddr] using h1) h2

theorem fld_ok {t : TypeId} {f : Field} {i : Nat} {fs : Array Field} {q : Bool × Nat} {cs : List CV} {v : Value} {c : CV} (hS : Sim fid N w0 X cw w) (ht : P.underlying t = some (.struct fs)) (hf : fs[i]? = some f)
    (hq : tyOf P f.type = some q) (hv : VR fid X w (.agg cs) v) (hl : ldc q.1 q.2 cs f.offset = some c) : OpOk fid N w0 X P (do pure (.value (← Instr.field t v i))) w c cw := by
  cases hv with
  | @agg _ us h1 h2 h3 =>
    obtain ⟨g1, g2, g3, g4, d, hd, hdd⟩ := tyOf_spec (w := w) hq
    have hpart : ∃ u, (part f.type us f.offset).run P w = .ok u w ∧ VR fid X w c u := by
      unfold ldc at hl
      split at hl
      · rename_i ha
        split at hl
        · rename_i hle
          cases hl
          refine ⟨.agg (us.extract f.offset (f.offset + q.2)), by simp only [part, Sem.run_bind, g1, ha, Result.andThen_ok, if_true, g2, Sem.run_pure], .agg (by simp; omega) (fun j c hc => ?_) fun j c hc => ?_⟩
          all_goals
            rw [List.getElem?_take] at hc
            split at hc
            · rename_i hj
              rw [List.getElem?_drop] at hc
              first
                | exact h2 _ c hc
                | (have := h3 _ c hc
                   have e : (us.extract f.offset (f.offset + q.2)).getD j undef = us.getD (f.offset + j) undef := by
                     simp only [Array.getD_eq_getD_getElem?, Array.getElem?_extract]
                     rw [if_pos (by omega)]
                   rw [e]; exact this)
            · cases hc
        · cases hl
      · rename_i ha
        have hlt : f.offset < us.size := by have := (List.getElem?_eq_some_iff.1 hl).1; omega
        refine ⟨us.getD f.offset undef, ?_, h3 _ c hl⟩
        simp [part, g1, ha, hlt]
    obtain ⟨u, hu, hvu⟩ := hpart
    exact OpOk.pur hS (by simp [Instr.field, run_underlying ht, hf, asAgg, hu]) hvu

theorem idx_ok {t e : TypeId} {len : Nat} {q : Bool × Nat} {cs : List CV} {v vi : Value} {iv c : CV} {i : Int} (hS : Sim fid N w0 X cw w) (ht : P.underlying t = some (.array len e))
    (hq : tyOf P e = some q) (hv : VR fid X w (.agg cs) v) (hi : VR fid X w iv vi) (hin : intV iv = some i) (h0 : 0 ≤ i) (h1 : i < len) (hl : ldc q.1 q.2 cs (i.toNat * q.2) = some c) :
    OpOk fid N w0 X P (do pure (.value (← Instr.index t v vi))) w c cw := by
  obtain ⟨k, rfl⟩ := intV_inv hin hi
  cases hv with
  | @agg _ us g0 h2 h3 =>
    obtain ⟨g1, g2, g3, g4, d, hd, hdd⟩ := tyOf_spec (w := w) hq
    have hpart : ∃ u, (part e us (i.toNat * q.2)).run P w = .ok u w ∧ VR fid X w c u := by
      unfold ldc at hl
      split at hl
      · rename_i ha
        split at hl
        · rename_i hle
          cases hl
          refine ⟨.agg (us.extract (i.toNat * q.2) (i.toNat * q.2 + q.2)), by simp only [part, Sem.run_bind, g1, ha, Result.andThen_ok, if_true, g2, Sem.run_pure], .agg (by simp; omega) (fun j c hc => ?_) fun j c hc => ?_⟩
          all_goals
            rw [List.getElem?_take] at hc
            split at hc
            · rename_i hj
              rw [List.getElem?_drop] at hc
              first
                | exact h2 _ c hc
                | (have := h3 _ c hc
                   have e : (us.extract (i.toNat * q.2) (i.toNat * q.2 + q.2)).getD j undef = us.getD (i.toNat * q.2 + j) undef := by
                     simp only [Array.getD_eq_getD_getElem?, Array.getElem?_extract]
                     rw [if_pos (by omega)]
                   rw [e]; exact this)
            · cases hc
        · cases hl
      · rename_i ha
        have hlt : i.toNat * q.2 < us.size := by have := (List.getElem?_eq_some_iff.1 hl).1; omega
        refine ⟨us.getD (i.toNat * q.2) undef, ?_, h3 _ c hl⟩
        simp [part, g1, ha, hlt]
    obtain ⟨u, hu, hvu⟩ := hpart
    exact OpOk.pur hS (by simp only [Instr.index, asIntOf, Sem.run_bind, Sem.run_pure, Result.andThen_ok, run_underlying ht, h0, h1, and_self, if_true, g2, hu]) hvu

theorem op_ok {own : Bool} {o : Oper} {ro : ROp} {c : CV} {cw' : CW} (hr : resOp P fid own o.op = some ro) (hE : EnvR fid X w ρ a) (hS : Sim fid N w0 X cw w) (hs : stepOp ro (ev ρ) cw = some (c, cw')) :
    OpOk fid N w0 X P (execOp a.eval o) w c cw' := by
  obtain ⟨dst, op, type, pos, after, guard⟩ := o
  simp only at hr
  cases op with
  | move x =>
    simp only [resOp, Option.bind_eq_some_iff] at hr
    obtain ⟨x', hx, hr⟩ := hr
    cases hr
    exact op_mov hx hE hS hs
  | assign x =>
    simp only [resOp, Option.bind_eq_some_iff] at hr
    obtain ⟨x', hx, hr⟩ := hr
    cases hr
    exact op_mov hx hE hS hs
  | pick cc x y =>
    simp only [resOp, Option.bind_eq_some_iff] at hr
    obtain ⟨c', hc, x', hx, y', hy, hr⟩ := hr
    cases hr
    simp only [stepOp] at hs
    split at hs
    · rename_i t ht
      obtain ⟨h1, rfl⟩ := pu_some hs
      have hb := (rx_vr hc ht hE).bool_inv
      cases t
      · exact ⟨_, w, X, .inl (by simp [execOp, hb, asBool]), hS, .refl X w, rx_vr hy h1 hE⟩
      · exact ⟨_, w, X, .inl (by simp [execOp, hb, asBool]), hS, .refl X w, rx_vr hx h1 hE⟩
    · cases hs
  | alloc t =>
    simp only [resOp, Option.bind_eq_some_iff] at hr
    obtain ⟨z, hz, hr⟩ := hr
    cases hr
    simp only [stepOp] at hs
    cases hs
    exact alloc_ok hS hz
  | box t x =>
    simp only [resOp, Option.bind_eq_some_iff] at hr
    obtain ⟨n, hn, x', hx, hr⟩ := hr
    cases hr
    simp only [stepOp, Option.bind_eq_some_iff] at hs
    obtain ⟨v, hv, hs⟩ := hs
    split at hs
    · rename_i h1
      cases hs
      exact box_ok (n := n) hS (rx_vr hx hv hE) h1.2
    · cases hs
  | build t ps =>
    simp only [resOp, Option.bind_eq_some_iff] at hr
    obtain ⟨z, hz, hr⟩ := hr
    split at hr
    · rename_i fs hu
      simp only [Option.bind_eq_some_iff] at hr
      obtain ⟨l, hl, hr⟩ := hr
      split at hr
      · rename_i hall
        cases hr
        simp only [stepOp, Option.bind_eq_some_iff] at hs
        obtain ⟨cs, hcs, hs⟩ := hs
        cases hs
        obtain ⟨v, h1, h2⟩ := build_ok hz hu hl hall hE hcs
        exact OpOk.pur hS h1 h2
      · cases hr
    · rename_i len e hu
      simp only [Option.bind_eq_some_iff] at hr
      obtain ⟨n, hn, l, hl, hr⟩ := hr
      cases hr
      simp only [stepOp, Option.bind_eq_some_iff] at hs
      obtain ⟨cs, hcs, hs⟩ := hs
      cases hs
      obtain ⟨v, h1, h2⟩ := build_arr hz hu hn hl hE hcs
      exact OpOk.pur hS h1 h2
    · cases hr
  | buildSlice t len ps =>
    simp only [resOp] at hr
    split at hr
    · rename_i e hu
      simp only [Option.bind_eq_some_iff] at hr
      obtain ⟨z, hz, n, hn, l, hl, hr⟩ := hr
      split at hr
      · cases hr
      · rename_i hno
        cases hr
        simp only [stepOp, Option.bind_eq_some_iff] at hs
        obtain ⟨cs, hcs, hs⟩ := hs
        obtain ⟨arr, h1, h2, h3⟩ := lit_run (w := w) hu hz hn hl hno hE hcs
        split at hs
        · cases hs
          obtain ⟨X', s, ex, hnx, hM⟩ := new_mut (T := e) (fr := (0, 0)) hS (cs := cs) (rcs := arr) (by rw [h2.1]; exact Nat.le_refl _) (.inl (Nat.le_refl _)) h2.2
          refine OpOk.val h1 s ex (.ref (by omega) (Nat.le_refl _) fun m hm => ?_)
          rw [hM] at hm; cases hm
          exact ⟨rfl, by rw [Nat.zero_add]; exact h3.symm⟩
        · cases hs
          obtain ⟨X', s, ex, hv⟩ := new_imm (T := e) (fr := (0, 0)) hS (cs := cs) (rcs := arr) (by rw [h2.1]; exact Nat.le_refl _) h2.2 (n := len) (cap := len) (clip := true) (Nat.le_refl _) (fun _ => rfl)
          exact OpOk.val h1 s ex hv
    · cases hr
  | load t x =>
    simp only [resOp, Option.bind_eq_some_iff] at hr
    obtain ⟨q, hq, x', hx, hr⟩ := hr
    cases hr
    simp only [stepOp] at hs
    split at hs
    · rename_i b off he
      split at hs
      · rename_i cs hg
        obtain ⟨h1, h2⟩ := pu_some hs
        exact load_ok hS hq (rx_vr hx he hE) (.inl ⟨b, off, cs, rfl, hg, h1⟩) h2
      · cases hs
    · rename_i cs off he
      obtain ⟨h1, h2⟩ := pu_some hs
      exact load_ok hS hq (rx_vr hx he hE) (.inr ⟨cs, off, rfl, h1⟩) h2
    · cases hs
  | store t x v =>
    simp only [resOp, Option.bind_eq_some_iff] at hr
    obtain ⟨n, hn, x', hx, v', hv, hr⟩ := hr
    cases hr
    simp only [stepOp] at hs
    split at hs
    · rename_i b off he
      split at hs
      · rename_i cs hg
        simp only [Option.bind_eq_some_iff] at hs
        obtain ⟨u, hu, hs⟩ := hs
        split at hs
        · rename_i hc
          cases hs
          exact store_ok hS hn (rx_vr hx he hE) hg (rx_vr hv hu hE) hc.1 hc.2.1 hc.2.2
        · cases hs
      · cases hs
    · cases hs
  | nilCheck x =>
    simp only [resOp, Option.bind_eq_some_iff] at hr
    obtain ⟨x', hx, hr⟩ := hr
    cases hr
    simp only [stepOp] at hs
    split at hs
    · rename_i b off he
      cases hs
      have hv := rx_vr hx he hE
      refine ⟨a.eval x, w, X, .inl ?_, hS, .refl X w, hv⟩
      simp only [execOp]
      generalize a.eval x = v at hv ⊢
      cases hv; rfl
    · rename_i cs off he
      cases hs
      have hv := rx_vr hx he hE
      refine ⟨a.eval x, w, X, .inl ?_, hS, .refl X w, hv⟩
      simp only [execOp]
      generalize a.eval x = v at hv ⊢
      cases hv; rfl
    · cases hs
  | binOp op t x y yt =>
    simp only [resOp, Option.bind_eq_some_iff] at hr
    obtain ⟨x', hx, y', hy, hr⟩ := hr
    have hbin : ro = .bin op x' y' → OpOk fid N w0 X P (execOp a.eval { dst, op := .binOp op t x y yt, type, pos, after, guard }) w c cw' := by
      rintro rfl
      simp only [stepOp] at hs
      obtain ⟨h1, rfl⟩ := pu_some hs
      simp only [Option.bind_eq_some_iff] at h1
      obtain ⟨u, hu, v, hv, h1⟩ := h1
      have hvx := rx_vr hx hu hE
      have hvy := rx_vr hy hv hE
      obtain ⟨r, g1, g2⟩ := binV_run (P := P) (w := w) (t := t) h1 hvx hvy
      obtain ⟨n1, n2⟩ := binV_guard h1 hvx
      have hg := guard_run (P := P) (w := w) (op := op) (t := t) (x := x) (y := y) (v := a.eval y) n1 n2
      exact OpOk.pur hS (by simp only [Sem.run_bind, hg, Result.andThen_ok]; exact g1) g2
    have heq : ∀ neg k, op = (if neg then .neq else .eql) → eqK P t = some k → ro = .eq neg k x' y' → OpOk fid N w0 X P (execOp a.eval { dst, op := .binOp op t x y yt, type, pos, after, guard }) w c cw' := by
      rintro neg k rfl hk rfl
      simp only [stepOp] at hs
      obtain ⟨h1, rfl⟩ := pu_some hs
      simp only [Option.bind_eq_some_iff] at h1
      obtain ⟨u, hu, v, hv, r, hrr, h1⟩ := h1
      cases h1
      exact OpOk.pur hS (eqOp_run (xo := x) (yo := y) hk (rx_vr hx hu hE) (rx_vr hy hv hE) hrr) (.bool _)
    split at hr
    · cases hr; exact hbin rfl
    · cases hr; exact hbin rfl
    · cases hr; exact hbin rfl
    · cases hr; exact hbin rfl
    · simp only [Option.bind_eq_some_iff] at hr
      obtain ⟨k, hk, hr⟩ := hr
      cases hr
      exact heq false k rfl hk rfl
    · simp only [Option.bind_eq_some_iff] at hr
      obtain ⟨k, hk, hr⟩ := hr
      cases hr
      exact heq true k rfl hk rfl
    · cases hr; exact hbin rfl
  | unOp op t x =>
    simp only [resOp, Option.bind_eq_some_iff] at hr
    obtain ⟨x', hx, hr⟩ := hr
    split at hr <;> cases hr
    · simp only [stepOp] at hs
      split at hs <;> cases hs
      rename_i b he
      exact OpOk.pur hS (by rw [(rx_vr hx he hE).bool_inv]; rfl) (.bool _)
    · simp only [stepOp] at hs
      split at hs <;> cases hs
      rename_i k n he
      exact OpOk.pur hS (by rw [(rx_vr hx he hE).int_inv]; rfl) (.int _ _)
    · simp only [stepOp] at hs
      split at hs <;> cases hs
      rename_i k n he
      exact OpOk.pur hS (by rw [(rx_vr hx he hE).int_inv]; rfl) (.int _ _)
  | convert s d x =>
    simp only [resOp, Option.bind_eq_some_iff] at hr
    obtain ⟨x', hx, hr⟩ := hr
    split at hr
    · rename_i k0 k hu1 hu2
      cases hr
      simp only [stepOp] at hs
      split at hs <;> cases hs
      rename_i k' n he
      exact OpOk.pur hS (by rw [(rx_vr hx he hE).int_inv]; simp only [convert, Sem.run_bind, run_underlying hu1, run_underlying hu2, Result.andThen_ok]; rfl) (.int _ _)
    · rename_i hu1 hu2
      cases hr
      simp only [stepOp] at hs
      split at hs <;> cases hs
      rename_i l he
      exact OpOk.pur hS (by rw [(rx_vr hx he hE).str_inv]; simp only [convert, Sem.run_bind, run_underlying hu1, run_underlying hu2, Result.andThen_ok]; rfl) (VR.str' l)
    · rename_i e hu1 hu2
      split at hr
      · rename_i h8
        cases hr
        have hu3 := isU8_spec h8
        simp only [stepOp] at hs
        split at hs
        · rename_i l he
          have hconv : (convert s d (.string ⟨l.toArray⟩)).run P w = (Conv.stringToBytes e ⟨l.toArray⟩).run P w := by
            simp only [convert, Sem.run_bind, run_underlying hu1, run_underlying hu2, run_underlying hu3, Result.andThen_ok]
          obtain ⟨cap, rest, fr, g1, g2, g3, g4⟩ := s2b_run (P := P) (w := w) (e := e) l
          have hsz : (byteCells l).length ≤ ((l.map fun b => Value.int .u8 b.toNat).toArray ++ rest).size := by simp [byteCells]
          have hcell : ∀ (i : Nat) (c : CV), (byteCells l)[i]? = some c → c.one = true ∧ VR fid X w c (((l.map fun b => Value.int .u8 b.toNat).toArray ++ rest).getD i undef) := by
            intro i c hc
            obtain ⟨b, hb, rfl⟩ := byteCells_at hc
            refine ⟨rfl, ?_⟩
            have hi : i < l.length := (List.getElem?_eq_some_iff.1 hb).1
            have : ((l.map fun b => Value.int .u8 b.toNat).toArray ++ rest).getD i undef = .int .u8 b.toNat := by
              rw [Array.getD_eq_getD_getElem?, Array.getElem?_append_left (by simpa using hi)]
              simp [hb]
            rw [this]; exact .int _ _
          obtain ⟨s1, e1⟩ := hS.same (drew_below w)
          split at hs
          · cases hs
            obtain ⟨X', s2, e2, hnx, hM⟩ := new_mut (T := e) (fr := fr) s1 hsz g2 (fun i c hc => ⟨(hcell i c hc).1, (hcell i c hc).2.mono e1⟩)
            refine OpOk.val (by rw [(rx_vr hx he hE).str_inv, hconv]; exact g4) s2 (e1.trans e2) (.ref (by omega) g1 fun m hm => ?_)
            rw [hM] at hm; cases hm
            exact ⟨rfl, by rw [Nat.zero_add, Nat.mul_one]; exact g3.symm⟩
          · cases hs
            obtain ⟨X', s2, e2, hv⟩ := new_imm (T := e) (fr := fr) s1 hsz (fun i c hc => ⟨(hcell i c hc).1, (hcell i c hc).2.mono e1⟩) (n := l.length) (cap := cap) (clip := false) g1 (by simp)
            exact OpOk.val (by rw [(rx_vr hx he hE).str_inv, hconv]; exact g4) s2 (e1.trans e2) hv
        · cases hs
      · cases hr
    · rename_i e hu1 hu2
      split at hr
      · rename_i h8
        cases hr
        have hu3 := isU8_spec h8
        simp only [stepOp, Option.bind_eq_some_iff] at hs
        obtain ⟨v, hv, hs⟩ := hs
        split at hs
        · cases hs
        · rename_i hns
          simp only [Option.bind_eq_some_iff] at hs
          obtain ⟨p, hp, l, hl, hs⟩ := hs
          cases hs
          have hvx := rx_vr hx hv hE
          have hb := b2s_ok (P := P) hS hvx (fun s e => hns s e) hp hl
          have hconv : (convert s d (a.eval x)).run P w = (Conv.bytesToString (a.eval x)).run P w := by
            have hform : ∃ b n c, a.eval x = .slice b n c := by
              generalize a.eval x = u at hvx
              cases v with
              | nils => cases hvx; exact ⟨_, _, _, rfl⟩
              | vec _ _ _ => cases hvx; exact ⟨_, _, _, rfl⟩
              | ref _ _ _ _ => cases hvx; exact ⟨_, _, _, rfl⟩
              | str s => exact absurd rfl (hns s)
              | _ => simp [seqOf] at hp
            obtain ⟨b, n, c, hf⟩ := hform
            rw [hf]
            cases b <;> simp only [convert, Sem.run_bind, run_underlying hu1, run_underlying hu2, run_underlying hu3, Result.andThen_ok]
          exact OpOk.pur hS (by rw [hconv]; exact hb) (VR.str' l)
      · cases hr
    · cases hr
  | makeInterface t x =>
    simp only [resOp, Option.bind_eq_some_iff] at hr
    obtain ⟨x', hx, hr⟩ := hr
    split at hr
    · cases hr
    · rename_i d hni hu
      cases hr
      simp only [stepOp, Option.bind_eq_some_iff] at hs
      obtain ⟨v, hv, hs⟩ := hs
      cases hs
      refine OpOk.pur hS ?_ (.ifc (rx_vr hx hv hE))
      simp only [Instr.makeInterface, Sem.run_bind, run_underlying hu, Result.andThen_ok]
      cases d <;> first | rfl | exact absurd rfl (hni _)
    · cases hr
  | makeFunc fn f1 c1 =>
    cases fn <;> simp only [resOp] at hr <;> first | cases hr; done | skip
    rename_i f
    simp only [Option.bind_eq_some_iff] at hr
    obtain ⟨g, hg, f2, hf2, c2, hc2, hr⟩ := hr
    cases hr
    simp only [stepOp, Option.bind_eq_some_iff] at hs
    obtain ⟨fs, hfs, cs, hcs, hs⟩ := hs
    cases hs
    obtain ⟨k1, k2⟩ := rxs_vr hf2 hfs hE
    obtain ⟨k3, k4⟩ := rxs_vr hc2 hcs hE
    refine OpOk.pur hS rfl (.fn hg (by simp [k1]) (by simp [k3]) (fun i c hc => ?_) fun i c hc => ?_)
    · have := k2 i c hc
      simpa [Array.getD_eq_getD_getElem?] using this
    · have := k4 i c hc
      simpa [Array.getD_eq_getD_getElem?] using this
  | makeMap t r =>
    cases r with
    | none =>
      simp only [resOp] at hr
      cases hr
      simp only [stepOp] at hs
      cases hs
      exact mkmap_ok hS
    | some r => simp only [resOp] at hr; cases hr
  | makeSlice t l cc =>
    simp only [resOp] at hr
    split at hr
    · rename_i e hu
      simp only [Option.bind_eq_some_iff] at hr
      obtain ⟨i, hi, z, hz, l', hl, c', hc, hr⟩ := hr
      split at hr
      · cases hr
      · rename_i hno
        cases hr
        simp only [stepOp, Option.bind_eq_some_iff] at hs
        obtain ⟨lv, hlv, ln, hln, cv, hcv, cn, hcn, hs⟩ := hs
        split at hs
        · rename_i hb
          cases hs
          exact mk_ok hS hu hi hno hz (rx_vr hl hlv hE) (rx_vr hc hcv hE) hln hcn hb.1 hb.2.1 hb.2.2
        · cases hs
    · cases hr
  | slice t x lo hi mx =>
    simp only [resOp, Option.bind_eq_some_iff] at hr
    obtain ⟨x', hx, lo', hlo, hi', hhi, mx', hmx, hr⟩ := hr
    split at hr
    · rename_i hu
      split at hr
      · cases hr
      · rename_i hmn
        cases hr
        simp only [stepOp] at hs
        split at hs
        · rename_i l he
          simp only [Option.bind_eq_some_iff] at hs
          obtain ⟨lov, hlov, hiv, hhiv, h, hh, o, ho, hs⟩ := hs
          split at hs
          · rename_i hb
            cases hs
            have hm : mx.map a.eval = none := by
              cases mx with
              | none => rfl
              | some m =>
                simp only [rxo, Option.bind_eq_some_iff] at hmx
                obtain ⟨_, _, hmx⟩ := hmx
                cases hmx
                simp at hmn
            obtain ⟨v, g1, g2⟩ := subS_ok (P := P) hu (rxo_vr hlo hlov hE) (rxo_vr hhi hhiv hE) ho hh hb.1 hb.2.1 hb.2.2
            exact OpOk.pur hS (by simp only [hm, (rx_vr hx he hE).str_inv]; exact g1) g2
          · cases hs
        · cases hs
    · rename_i e hu
      simp only [Option.bind_eq_some_iff] at hr
      obtain ⟨n, hn, hr⟩ := hr
      split at hr
      · cases hr
      rename_i hn0
      cases hr
      simp only [stepOp, Option.bind_eq_some_iff] at hs
      obtain ⟨xv, hxv, lov, hlov, hiv, hhiv, mxv, hmxv, o, ho, hs⟩ := hs
      have hvx := rx_vr hx hxv hE
      have rlo := rxo_vr (w := w) (X := X) hlo hlov hE
      have rhi := rxo_vr (w := w) (X := X) hhi hhiv hE
      have rmx := rxo_vr (w := w) (X := X) hmx hmxv hE
      show OpOk fid N w0 X P (do pure (.value (← Instr.sliceAt t (a.eval x) (lo.map a.eval) (hi.map a.eval) (mx.map a.eval)))) w c cw'
      generalize a.eval x = vx at hvx ⊢
      generalize lo.map a.eval = vlo at rlo ⊢
      generalize hi.map a.eval = vhi at rhi ⊢
      generalize mx.map a.eval = vmx at rmx ⊢
      split at hs
      · -- nil, two bounds
        cases vmx with
        | some m => exact rmx.elim
        | none =>
          simp only [Option.bind_eq_some_iff] at hs
          obtain ⟨h, hh, hs⟩ := hs
          split at hs
          · rename_i hb
            obtain ⟨rfl, rfl⟩ := hb
            cases hs
            cases hvx
            have hbd := bounds2 (P := P) (isS := true) (len := 0) (cap := 0) rlo rhi ho hh (Int.le_refl _) (Int.le_refl _) (Int.le_refl _) (Nat.le_refl _)
            exact OpOk.pur hS (sub_slice_run hu hn hbd) (by simpa using VR.nils)
          · cases hs
      · rename_i m
        cases vmx with
        | none => exact rmx.elim
        | some vm =>
          simp only [Option.bind_eq_some_iff] at hs
          obtain ⟨mi, hmi, h, hh, hs⟩ := hs
          split at hs
          · rename_i hb
            obtain ⟨rfl, rfl, rfl⟩ := hb
            cases hs
            cases hvx
            have hbd := bounds3 (P := P) (isS := true) (len := 0) (cap := 0) rlo rhi rmx ho hh hmi (Int.le_refl _) (Int.le_refl _) (Int.le_refl _) (Int.le_refl _)
            exact OpOk.pur hS (sub_slice_run hu hn hbd) (by simpa using VR.nils)
          · cases hs
      · rename_i cs k clip
        cases vmx with
        | some m => exact rmx.elim
        | none =>
          simp only [Option.bind_eq_some_iff] at hs
          obtain ⟨h, hh, hs⟩ := hs
          split at hs
          · rename_i hb
            obtain ⟨b1, b2, b3, b4⟩ := hb
            cases hs
            obtain ⟨r, oo, cap, rfl, k1, k2, k3, k4⟩ := hvx.vec_inv
            have hbd := bounds2 (P := P) (isS := true) (len := k) (cap := cap) rlo rhi ho hh b1 b2 (by omega) k1
            refine OpOk.pur hS (sub_slice_run hu hn hbd) (vec_sub k3 k4 (by omega) (by omega) fun hc => ?_)
            simp only [Bool.and_eq_true, beq_iff_eq] at hc
            rw [k2 hc.1]; omega
          · cases hs
      · rename_i cs k clip m
        cases vmx with
        | none => exact rmx.elim
        | some vm =>
          simp only [Option.bind_eq_some_iff] at hs
          obtain ⟨mi, hmi, h, hh, hs⟩ := hs
          split at hs
          · rename_i hb
            obtain ⟨b1, b2, b3, b4, b5⟩ := hb
            cases hs
            obtain ⟨r, oo, cap, rfl, k1, k2, k3, k4⟩ := hvx.vec_inv
            have hbd := bounds3 (P := P) (isS := true) (len := k) (cap := cap) rlo rhi rmx ho hh hmi b1 b2 b3 (by omega)
            refine OpOk.pur hS (sub_slice_run hu hn hbd) (vec_sub k3 k4 (by omega) (by omega) fun hc => ?_)
            simp only [beq_iff_eq] at hc
            rw [hc]
          · cases hs
      · rename_i b off k s
        cases vmx with
        | some m => exact rmx.elim
        | none =>
          simp only [Option.bind_eq_some_iff] at hs
          obtain ⟨h, hh, hs⟩ := hs
          split at hs
          · cases hs
          · rename_i hsz
            have hsz := Classical.not_not.1 hsz
            subst hsz
            split at hs
            · rename_i cs hg
              split at hs
              · rename_i hb
                obtain ⟨b1, b2, b3⟩ := hb
                cases hs
                cases hvx with
                | @ref _ _ _ _ cap ad g1 g2 g3 =>
                  obtain ⟨m, hm, hor⟩ := hS.get hg
                  obtain ⟨rfl, hcap⟩ := g3 m hm
                  obtain ⟨rcs, T, fr, o1, o2, o3, o4, o5⟩ := hor
                  have hle : h.toNat ≤ cap := mul_le_of (sz := s) (by omega) hn0
                  have hbd := bounds2 (P := P) (isS := true) (len := k) (cap := cap) rlo rhi ho hh b1 b2 (by omega) g2
                  refine OpOk.pur hS (sub_slice_run hu hn hbd) ?_
                  by_cases hoh : o = h ∧ o ≠ 0
                  · rw [if_pos hoh]
                    have hz : h.toNat - o.toNat = 0 := by omega
                    rw [hz]
                    by_cases hcl : cap = o.toNat
                    · rw [if_pos hcl]
                      exact RowAt.vec (fun i c hc => by simp at hc) (fun i c hc => by simp at hc) (by omega) (by simp)
                    · rw [if_neg hcl]
                      simp only [Option.map_some, add_none]
                      exact RowAt.vec (fun i c hc => by simp at hc) (fun i c hc => by simp at hc) (by omega) (by simp)
                  · rw [if_neg hoh]
                    have key : VR fid X w (.ref b (off + o.toNat * s) (h.toNat - o.toNat) s) (.slice (some ⟨m.1, m.2.1 + off + o.toNat * s, none⟩) (h.toNat - o.toNat) (cap - o.toNat)) := by
                      refine .ref g1 (by omega) fun m' hm' => ?_
                      rw [hm] at hm'; cases hm'
                      refine ⟨by rw [Nat.add_assoc], ?_⟩
                      have : o.toNat * s + (cap - o.toNat) * s = cap * s := by rw [← Nat.add_mul]; congr 1; omega
                      omega
                    by_cases hcl : cap = o.toNat
                    · rw [if_pos hcl]
                      have h0 : o.toNat = 0 := by omega
                      rw [h0, Nat.zero_mul, Nat.add_zero] at key
                      rw [h0]
                      simpa using key
                    · rw [if_neg hcl]
                      simp only [Option.map_some, add_none]
                      exact key
              · cases hs
            · cases hs
      · rename_i b off k s m
        cases vmx with
        | none => exact rmx.elim
        | some vm =>
          simp only [Option.bind_eq_some_iff] at hs
          obtain ⟨mi, hmi, h, hh, hs⟩ := hs
          split at hs
          · rename_i ob hg
            split at hs
            · rename_i hb
              obtain ⟨b1, b2, b3, b4⟩ := hb
              subst b2; subst b3
              cases hs
              obtain ⟨m', hm', _⟩ := hS.get hg
              cases hvx with
              | @ref _ _ _ _ cap ad g1 g2 g3 =>
                obtain ⟨rfl, _⟩ := g3 m' hm'
                have hbd := bounds3 (P := P) (isS := true) (len := k) (cap := cap) rlo rhi rmx ho hh hmi b1 (Int.le_refl _) (Int.le_refl _) (by omega)
                refine OpOk.pur hS (sub_slice_run hu hn hbd) ?_
                rw [if_pos rfl, Nat.sub_self]
                exact RowAt.vec (fun i c hc => by simp at hc) (fun i c hc => by simp at hc) (Nat.le_refl _) (fun _ => rfl)
            · cases hs
          · cases hs
      · cases hs
    · rename_i n e hu
      simp only [Option.bind_eq_some_iff] at hr
      obtain ⟨s, hsz, hr⟩ := hr
      split at hr
      · cases hr
      · rename_i hno
        cases hr
        simp only [Bool.or_eq_true, not_or, beq_iff_eq, Bool.not_eq_true, Option.isSome_eq_false_iff, Option.isNone_iff_eq_none] at hno
        obtain ⟨⟨⟨n1, n2⟩, n3⟩, n4⟩ := hno
        simp only [stepOp] at hs
        split at hs
        · rename_i b he
          split at hs
          · rename_i cs hg
            split at hs
            · rename_i hlen
              cases hs
              have hvx := rx_vr hx he hE
              have onone : ∀ {x : Option Operand} {r : Option RX}, rxo fid x = some r → r = none → x = none := by
                intro x r h1 h2
                subst h2
                cases x with
                | none => rfl
                | some x => simp only [rxo, Option.bind_eq_some_iff] at h1; obtain ⟨_, _, h1⟩ := h1; cases h1
              have e1 := onone hlo n1
              have e2 := onone hhi n2
              have e3 := onone hmx n3
              subst e1; subst e2; subst e3
              obtain ⟨mm, hmm, hor⟩ := hS.get hg
              obtain ⟨rcs, T, fr, o1, o2, o3, o4, o5⟩ := hor
              have hv : a.eval x = .pointer (some ⟨mm.1, mm.2.1, none⟩) := by
                generalize a.eval x = v at hvx
                cases hvx with
                | ptr g1 g2 => rw [g2 mm hmm]; rfl
              obtain ⟨sk, ek⟩ := hS.kill b
              have hMk : ∀ b' m', (if b' = b then none else X.M b') = some m' → m'.1 ≠ mm.1 := by
                intro b' m' hm' he
                by_cases hb : b' = b
                · rw [if_pos hb] at hm'; cases hm'
                · rw [if_neg hb] at hm'
                  exact hb (hS.inj b' b m' mm hm' hmm he)
              obtain ⟨s2, e2⟩ := sk.pushG (w' := w) (rb := mm.1) (base := mm.2.1) (e := n * s) (o := .cells cs) (hS.sep b mm hmm).1 (hS.sep b mm hmm).2 hMk
                (fun _ _ _ => rfl) (Nat.le_refl _) rfl rfl rfl fun ex =>
                  ⟨rcs, T, fr, o1, by show cs.length ≤ n * s; omega, by show mm.2.1 + n * s ≤ rcs.size; omega, o4, fun i c hc => ⟨(o5 i c hc).1, (o5 i c hc).2.mono (ek.trans ex)⟩⟩
              have hnx : X.nx = cw.next := hS.nx
              refine OpOk.val (v := .slice (some ⟨mm.1, mm.2.1, none⟩) n n) (w' := w) ?_ s2 (ek.trans e2) (.ref (by show (cw.kill b).next < X.nx + 1; rw [hnx]; exact Nat.lt_succ_self _) (Nat.le_refl _) fun m' hm' => ?_)
              · rw [hv]
                have hss := szOf_run (P := P) (w := w) hsz
                simp only [Option.map_none, Instr.sliceAt, Sem.run_bind, run_underlying hu, Result.andThen_ok, Instr.sureAddr, Sem.run_pure, Instr.sliceBounds, hss]
                by_cases hn0 : n = 0
                · subst hn0; simp
                · rw [if_neg hn0, add_none]; simp
              · have : (if cw.next = X.nx then some (mm.1, mm.2.1, n * s) else if cw.next = b then none else X.M cw.next) = some m' := hm'
                rw [if_pos hnx.symm] at this
                cases this
                exact ⟨rfl, by show 0 + n * s = n * s; omega⟩
            · cases hs
          · cases hs
        · cases hs
    · cases hr
  | fieldAddr t x i =>
    simp only [resOp] at hr
    split at hr
    · rename_i fs hu
      simp only [Option.bind_eq_some_iff] at hr
      obtain ⟨f, hf, x', hx, hr⟩ := hr
      split at hr
      · rename_i n hn
        cases hr
        simp only [stepOp] at hs
        have hrun : ∀ r o, (Instr.fieldAt t (.pointer (some ⟨r, o, none⟩)) i).run P w = .ok (.pointer (some ⟨r, o + f.offset, none⟩)) w := by
          intro r o
          simp [Instr.fieldAt, run_underlying hu, hf, Instr.sureAddr, fieldPlace_run hn]
        split at hs
        · rename_i b o he
          cases hs
          have hvx := rx_vr hx he hE
          show OpOk fid N w0 X P (do pure (.value (← Instr.fieldAt t (a.eval x) i))) w _ _
          generalize a.eval x = v at hvx ⊢
          cases hvx with
          | @ptr _ _ ad g1 g2 =>
            refine OpOk.pur (v := .pointer (some (ad.add f.offset))) hS ?_ (.ptr g1 fun m hm => ?_)
            · have hz := szOf_run (P := P) (w := w) hn
              simp [Instr.fieldAt, run_underlying hu, hf, Instr.sureAddr, fieldPlace, hz]
            · rw [g2 m hm, add_none, Nat.add_assoc]
        · rename_i cs o he
          cases hs
          have hvx := rx_vr hx he hE
          obtain ⟨r, oo, hv, k3, k4⟩ := hvx.row_inv
          refine OpOk.pur hS (by rw [hv]; exact hrun _ _) ?_
          rw [Nat.add_assoc]
          exact k3.row k4 _
        · cases hs
      · cases hr
    · cases hr
  | field t x i =>
    simp only [resOp] at hr
    split at hr
    · rename_i fs hu
      simp only [Option.bind_eq_some_iff] at hr
      obtain ⟨f, hf, x', hx, q, hq, hr⟩ := hr
      cases hr
      simp only [stepOp] at hs
      split at hs
      · rename_i cs he
        obtain ⟨h1, rfl⟩ := pu_some hs
        exact fld_ok hS hu hf hq (rx_vr hx he hE) h1
      · cases hs
    · cases hr
  | indexAddr t x i =>
    simp only [resOp, Option.bind_eq_some_iff] at hr
    obtain ⟨x', hx, i', hi, hr⟩ := hr
    split at hr
    · rename_i e hu
      simp only [Option.bind_eq_some_iff] at hr
      obtain ⟨n, hn, hr⟩ := hr
      cases hr
      simp only [stepOp, Option.bind_eq_some_iff] at hs
      obtain ⟨iv, hiv, ii, hii, hs⟩ := hs
      obtain ⟨ki, hki⟩ := intV_inv hii (rx_vr hi hiv hE)
      have hrun : ∀ r o len cap, 0 ≤ ii → ii < (len : Nat) → (Instr.indexAt t (.slice (some ⟨r, o, none⟩) len cap) (.int ki ii)).run P w = .ok (.pointer (some ⟨r, o + ii.toNat * n, none⟩)) w := by
        intro r o len cap h0 h1
        have hss := szOf_run (P := P) (w := w) hn
        simp only [Instr.indexAt, asIntOf, Sem.run_bind, Sem.run_pure, Result.andThen_ok, run_underlying hu]
        simp [h0, h1, hss, add_none]
      split at hs
      · rename_i cs k clip he
        split at hs
        · rename_i hb
          cases hs
          obtain ⟨r, o, cap, hv, k1, k2, k3, k4⟩ := (rx_vr hx he hE).vec_inv
          exact OpOk.pur hS (by rw [hv, hki]; exact hrun r o k cap hb.1 hb.2) (k3.row k4 _)
        · cases hs
      · rename_i b off k s he
        split at hs
        · rename_i hb
          obtain ⟨b1, b2, rfl⟩ := hb
          cases hs
          have hvx := rx_vr hx he hE
          show OpOk fid N w0 X P (do pure (.value (← Instr.indexAt t (a.eval x) (a.eval i)))) w _ _
          rw [hki]
          generalize a.eval x = v at hvx ⊢
          cases hvx with
          | @ref _ _ _ _ cap ad g1 g2 g3 =>
            refine OpOk.pur (v := .pointer (some (ad.add (ii.toNat * s)))) hS ?_ (.ptr g1 fun m hm => ?_)
            · have hss := szOf_run (P := P) (w := w) hn
              simp only [Instr.indexAt, asIntOf, Sem.run_bind, Sem.run_pure, Result.andThen_ok, run_underlying hu]
              simp [b1, b2, hss]
            · rw [(g3 m hm).1, add_none, Nat.add_assoc]
        · cases hs
      · cases hs
    · rename_i len e hu
      simp only [Option.bind_eq_some_iff] at hr
      obtain ⟨n, hn, hr⟩ := hr
      cases hr
      simp only [stepOp, Option.bind_eq_some_iff] at hs
      obtain ⟨iv, hiv, ii, hii, hs⟩ := hs
      obtain ⟨ki, hki⟩ := intV_inv hii (rx_vr hi hiv hE)
      have hrun : ∀ ad, 0 ≤ ii → ii < (len : Nat) → (Instr.indexAt t (.pointer (some ad)) (.int ki ii)).run P w = .ok (.pointer (some (ad.add (ii.toNat * n)))) w := by
        intro ad h0 h1
        have hss := szOf_run (P := P) (w := w) hn
        simp only [Instr.indexAt, asIntOf, Sem.run_bind, Sem.run_pure, Result.andThen_ok, run_underlying hu, Instr.sureAddr]
        simp [h0, h1, hss]
      split at hs
      · rename_i b off he
        split at hs
        · rename_i hb
          cases hs
          have hvx := rx_vr hx he hE
          show OpOk fid N w0 X P (do pure (.value (← Instr.indexAt t (a.eval x) (a.eval i)))) w _ _
          rw [hki]
          generalize a.eval x = v at hvx ⊢
          cases hvx with
          | @ptr _ _ ad g1 g2 =>
            refine OpOk.pur hS (hrun ad hb.1 hb.2) (.ptr g1 fun m hm => ?_)
            rw [g2 m hm, add_none, Nat.add_assoc]
        · cases hs
      · rename_i cs off he
        split at hs
        · rename_i hb
          cases hs
          obtain ⟨r, o, hv, k3, k4⟩ := (rx_vr hx he hE).row_inv
          refine OpOk.pur hS (by rw [hv, hki]; exact hrun _ hb.1 hb.2) ?_
          rw [add_none, Nat.add_assoc]
          exact k3.row k4 _
        · cases hs
      · cases hs
    · cases hr
  | index t x i =>
    simp only [resOp, Option.bind_eq_some_iff] at hr
    obtain ⟨x', hx, i', hi, hr⟩ := hr
    split at hr
    · rename_i hu
      cases hr
      simp only [stepOp, Option.bind_eq_some_iff] at hs
      obtain ⟨iv, hiv, ii, hii, hs⟩ := hs
      obtain ⟨ki, hki⟩ := intV_inv hii (rx_vr hi hiv hE)
      split at hs
      · rename_i l he
        split at hs
        · rename_i h0
          simp only [Option.bind_eq_some_iff] at hs
          obtain ⟨b, hb, hs⟩ := hs
          cases hs
          refine OpOk.pur (v := .int .u8 b.toNat) hS ?_ (.int _ _)
          have hlt : ii.toNat < l.length := (List.getElem?_eq_some_iff.1 hb).1
          have hbs : (ByteArray.mk l.toArray)[ii.toNat]? = some b := by
            have hlt' : ii.toNat < (ByteArray.mk l.toArray).size := by simpa [ByteArray.size] using hlt
            rw [getElem?_pos (ByteArray.mk l.toArray) ii.toNat hlt']
            rw [List.getElem?_eq_getElem hlt] at hb
            rw [← hb]
            rfl
          rw [(rx_vr hx he hE).str_inv, hki]
          simp only [Instr.index, asIntOf, Sem.run_bind, Sem.run_pure, Result.andThen_ok, run_underlying hu, h0, if_true, hbs]
        · cases hs
      · cases hs
    · rename_i len e hu
      simp only [Option.bind_eq_some_iff] at hr
      obtain ⟨q, hq, hr⟩ := hr
      cases hr
      simp only [stepOp, Option.bind_eq_some_iff] at hs
      obtain ⟨iv, hiv, ii, hii, hs⟩ := hs
      split at hs
      · rename_i cs he
        split at hs
        · rename_i hb
          obtain ⟨h1, rfl⟩ := pu_some hs
          exact idx_ok hS hu hq (rx_vr hx he hE) (rx_vr hi hiv hE) hii hb.1 hb.2 h1
        · cases hs
      · cases hs
    · cases hr
  | lookup t x k ok =>
    simp only [resOp, Option.bind_eq_some_iff] at hr
    obtain ⟨x', hx, k', hk, hr⟩ := hr
    split at hr
    · rename_i kt e hu
      simp only [Option.bind_eq_some_iff] at hr
      obtain ⟨ks, hks, zv, ⟨i, hi, hzv⟩, z, hz, hr⟩ := hr
      cases hr
      simp only [stepOp, Option.bind_eq_some_iff] at hs
      obtain ⟨xv, hxv, kv, hkv, hs⟩ := hs
      split at hs
      · rename_i hik
        simp only [Option.bind_eq_some_iff] at hs
        obtain ⟨r, hr, hs⟩ := hs
        have hh : (xv = .nilm ∧ r = none) ∨ ∃ b es clock, xv = .map b ∧ cw.get b = some (.map es clock) ∧ findE kv es 0 = some r := by
          split at hr
          · cases hr; exact .inl ⟨rfl, rfl⟩
          · split at hr
            · rename_i es clock hg; exact .inr ⟨_, es, clock, rfl, hg, hr⟩
            · cases hr
          · cases hr
        have := look_ok (P := P) (ok := ok) hS hu hks hi hzv hz (rx_vr hx hxv hE) (rx_vr hk hkv hE) hik hh
        cases r with
        | none => cases hs; exact this
        | some q => obtain ⟨i, v', b'⟩ := q; cases hs; exact this
      · cases hs
    · cases hr
  | mapUpdate t m k v =>
    simp only [resOp, Option.bind_eq_some_iff] at hr
    obtain ⟨m', hm, k', hk, v', hv, hr⟩ := hr
    split at hr
    · rename_i kt e hu
      simp only [Option.bind_eq_some_iff] at hr
      obtain ⟨ks, hks, hr⟩ := hr
      cases hr
      simp only [stepOp, Option.bind_eq_some_iff] at hs
      obtain ⟨mv, hmv, kv, hkv, vv, hvv, hs⟩ := hs
      split at hs
      · rename_i hik
        split at hs
        · split at hs
          · rename_i es clock hg
            simp only [Option.bind_eq_some_iff] at hs
            obtain ⟨r, hf, hs⟩ := hs
            have := mupd_ok (P := P) hS hu hks (rx_vr hm hmv hE) (rx_vr hk hkv hE) (rx_vr hv hvv hE) hik hg hf
            cases r with
            | none => cases hs; exact this
            | some q => obtain ⟨i, v', b'⟩ := q; cases hs; exact this
          · cases hs
        · cases hs
      · cases hs
    · cases hr
  | insert t m k v =>
    simp only [resOp, Option.bind_eq_some_iff] at hr
    obtain ⟨m', hm, k', hk, v', hv, hr⟩ := hr
    split at hr
    · rename_i kt e hu
      simp only [Option.bind_eq_some_iff] at hr
      obtain ⟨ks, hks, hr⟩ := hr
      cases hr
      simp only [stepOp, Option.bind_eq_some_iff] at hs
      obtain ⟨mv, hmv, kv, hkv, vv, hvv, hs⟩ := hs
      split at hs
      · rename_i hik
        split at hs
        · split at hs
          · rename_i es clock hg
            simp only [Option.bind_eq_some_iff] at hs
            obtain ⟨r, hf, hs⟩ := hs
            have := mupd_ok (P := P) hS hu hks (rx_vr hm hmv hE) (rx_vr hk hkv hE) (rx_vr hv hvv hE) hik hg hf
            cases r with
            | none => cases hs; exact this
            | some q => obtain ⟨i, v', b'⟩ := q; cases hs; exact this
          · cases hs
        · cases hs
      · cases hs
    · cases hr
  | mapEntry t m k =>
    simp only [resOp, Option.bind_eq_some_iff] at hr
    obtain ⟨m', hm, k', hk, hr⟩ := hr
    split at hr
    · rename_i kt e hu
      simp only [Option.bind_eq_some_iff] at hr
      obtain ⟨ks, hks, zv, ⟨i, hi, hzv⟩, z, hz, hr⟩ := hr
      cases hr
      simp only [stepOp, Option.bind_eq_some_iff] at hs
      obtain ⟨mv, hmv, kv, hkv, hs⟩ := hs
      split at hs
      · rename_i hik
        split at hs
        · split at hs
          · rename_i es clock hg
            simp only [Option.bind_eq_some_iff] at hs
            obtain ⟨r, hf, hs⟩ := hs
            have := ment_ok (P := P) hS hu hks hi hzv hz (rx_vr hm hmv hE) (rx_vr hk hkv hE) hik hg hf
            cases r with
            | none => cases hs; exact this
            | some q => obtain ⟨i, v', b'⟩ := q; cases hs; exact this
          · cases hs
        · cases hs
      · cases hs
    · cases hr
  | entryStore t m s v =>
    simp only [resOp, Option.bind_eq_some_iff] at hr
    obtain ⟨m', hm, s', hsx, v', hv, hr⟩ := hr
    cases hr
    simp only [stepOp, Option.bind_eq_some_iff] at hs
    obtain ⟨mv, hmv, sv, hsv, vv, hvv, si, hsi, hs⟩ := hs
    split at hs
    · split at hs
      · rename_i es clock hg
        split at hs
        · rename_i i hf
          cases hs
          exact mset_ok hS (rx_vr hm hmv hE) (rx_vr hsx hsv hE) hsi (rx_vr hv hvv hE) hg hf
        · cases hs
      · cases hs
    · cases hs
  | extract x i =>
    simp only [resOp, Option.bind_eq_some_iff] at hr
    obtain ⟨x', hx, hr⟩ := hr
    cases hr
    simp only [stepOp] at hs
    split at hs
    · rename_i vs he
      obtain ⟨h1, rfl⟩ := pu_some hs
      have hvx := rx_vr hx he hE
      show OpOk fid N w0 X P (do pure (.value (← Instr.extract (a.eval x) i))) w _ _
      generalize a.eval x = v at hvx ⊢
      cases hvx with
      | @tup _ rvs g1 g2 =>
        have hlt : i < rvs.size := by have := (List.getElem?_eq_some_iff.1 h1).1; omega
        refine OpOk.pur (v := rvs.getD i undef) hS ?_ (g2 i c h1)
        simp [Instr.extract, hlt]
    · cases hs
  | call cc =>
    obtain ⟨callee, args, argTypes⟩ := cc
    cases callee with
    | builtin b =>
      simp only [resOp] at hr
      exact op_builtin rfl hr hE hS hs
    | value f =>
      cases f with
      | func f =>
        simp only [resOp, Option.bind_eq_some_iff] at hr
        obtain ⟨g, hg, xs, hxs, hr⟩ := hr
        cases hr
        simp [stepOp] at hs
      | _ =>
        simp only [resOp, Option.bind_eq_some_iff] at hr
        obtain ⟨g, hg, xs, hxs, hr⟩ := hr
        cases hr
        simp [stepOp] at hs
    | invoke r m => simp only [resOp] at hr; cases hr
  | _ => simp only [resOp] at hr; cases hr

end Go.Cs

/- The order of a region's operations: independent ones may change places. -/
namespace Go.Cs

def ROp.reads : ROp → List RX
  | .mov x | .not x | .neg x | .cpl x | .conv _ x | .s2s x | .s2b _ x | .b2s x | .i2s x | .len x | .lenS x | .lenM x | .box _ x | .load _ _ x | .nilc x | .faddr _ x | .fld _ _ _ x
  | .subA _ _ x | .clr _ _ x | .ext _ x | .ifc _ x | .mclr x => [x]
  | .pick c a b => [c, a, b]
  | .bin _ x y | .eq _ _ x y | .store _ x y | .iaddr _ x y | .iaddrA _ _ x y | .idx _ _ _ x y | .idxS x y | .mk _ _ x y | .app _ x y | .appZ _ _ x y | .copy _ x y | .max x y | .min x y
  | .look _ _ _ x y | .ment _ _ x y | .mdel _ x y => [x, y]
  | .lenA _ | .alloc _ | .mkmap => []
  | .build _ ps | .lit _ _ _ _ ps => ps.map (·.2.2)
  | .subS x lo hi => x :: (lo.toList ++ hi.toList)
  | .sub _ x lo hi mx => x :: (lo.toList ++ hi.toList ++ mx.toList)
  | .call _ xs => xs
  | .callv f xs => f :: xs
  | .mkfn _ a b => a ++ b
  | .mupd _ m k v | .mset m k v => [m, k, v]

theorem evs_congr {e e' : RX → Option CV} : ∀ {xs : List RX}, (∀ x ∈ xs, e x = e' x) → evs e xs = evs e' xs
  | [], _ => rfl
  | x :: xs, h => by
    simp only [evs, h x (by simp)]
    rw [evs_congr fun y hy => h y (by simp [hy])]

theorem fillc_congr {e e' : RX → Option CV} : ∀ {ps : List (Nat × Nat × RX)} {cs : List CV}, (∀ x ∈ ps.map (·.2.2), e x = e' x) → fillc e cs ps = fillc e' cs ps
  | [], _, _ => rfl
  | (o, n, x) :: r, cs, h => by
    simp only [fillc, h x (by simp)]
    congr 1
    funext v
    split
    · exact fillc_congr fun y hy => h y (by simp at hy ⊢; exact .inr hy)
    · rfl

theorem evo_congr {e e' : RX → Option CV} {x : Option RX} (h : ∀ y ∈ x.toList, e y = e' y) : evo e x = evo e' x := by
  cases x with
  | none => rfl
  | some x => simp only [evo, h x (by simp)]

theorem stepOp_congr {e e' : RX → Option CV} {o : ROp} (h : ∀ x ∈ o.reads, e x = e' x) (cw : CW) : stepOp o e cw = stepOp o e' cw := by
  cases o
  case build z ps => simp only [stepOp]; rw [fillc_congr (e := e) (e' := e') h]
  case lit own sz n z ps => simp only [stepOp]; rw [fillc_congr (e := e) (e' := e') h]
  case subS x lo hi =>
    simp only [stepOp, h x (by simp [ROp.reads])]
    rw [evo_congr (x := lo) fun y hy => h y (by simp only [ROp.reads, List.mem_cons, List.mem_append]; exact .inr (.inl hy)), evo_congr (x := hi) fun y hy => h y (by simp only [ROp.reads, List.mem_cons, List.mem_append]; exact .inr (.inr hy))]
  case sub sz x lo hi mx =>
    simp only [stepOp, h x (by simp [ROp.reads])]
    rw [evo_congr (x := lo) fun y hy => h y (by simp only [ROp.reads, List.mem_cons, List.mem_append]; exact .inr (.inl (.inl hy))),
      evo_congr (x := hi) fun y hy => h y (by simp only [ROp.reads, List.mem_cons, List.mem_append]; exact .inr (.inl (.inr hy))),
      evo_congr (x := mx) fun y hy => h y (by simp only [ROp.reads, List.mem_cons, List.mem_append]; exact .inr (.inr hy))]
  case mkfn g a b =>
    simp only [stepOp]
    rw [evs_congr (xs := a) fun y hy => h y (by simp only [ROp.reads, List.mem_append]; exact .inl hy), evs_congr (xs := b) fun y hy => h y (by simp only [ROp.reads, List.mem_append]; exact .inr hy)]
  case call g xs => rfl
  case callv f xs => rfl
  case lenA n => rfl
  case alloc z => rfl
  case mkmap => rfl
  all_goals
    simp only [ROp.reads, List.mem_cons, List.not_mem_nil, or_false, forall_eq_or_imp, forall_eq] at h
    simp only [stepOp, h]

/-- The operation asks nothing of the world, and leaves it. -/
def ROp.pure : ROp → Bool
  | .mov _ | .pick .. | .bin .. | .eq .. | .not _ | .neg _ | .cpl _ | .conv .. | .s2s _ | .len _ | .lenS _ | .lenA _ | .nilc _ | .faddr .. | .fld .. | .iaddr .. | .iaddrA .. | .idx .. | .idxS .. | .build ..
  | .subS .. | .max .. | .min .. | .mkfn .. | .ext .. | .ifc .. => true
  | .s2b own _ | .lit own _ _ _ _ => !own
  | _ => false

/-- The operation leaves the world. -/
def ROp.quiet : ROp → Bool
  | .load .. | .b2s _ | .lenM _ | .look .. | .sub .. => true
  | o => o.pure

theorem bind_world {α : Type} {x : Option α} {f : α → Option (CV × CW)} {c : CV} {cw' : CW} (h : x.bind f = some (c, cw')) : ∃ a, x = some a ∧ f a = some (c, cw') := by
  simpa only [Option.bind_eq_some_iff] using h

theorem stepOp_pure {o : ROp} (hp : o.pure = true) {e : RX → Option CV} {cw cw' : CW} {c : CV} (h : stepOp o e cw = some (c, cw')) : cw' = cw ∧ ∀ cw2, stepOp o e cw2 = some (c, cw2) := by
  cases o <;> simp only [ROp.pure, Bool.false_eq_true] at hp <;> simp only [stepOp] at h ⊢
  case s2b own x =>
    simp only [Bool.not_eq_true'] at hp
    subst hp
    split at h
    · cases h; exact ⟨rfl, fun _ => rfl⟩
    · cases h
  case lit own sz n z ps =>
    simp only [Bool.not_eq_true'] at hp
    subst hp
    obtain ⟨cs, hcs, h⟩ := bind_world h
    cases h
    exact ⟨rfl, fun _ => by rw [hcs]; rfl⟩
  case lenA n => cases h; exact ⟨rfl, fun _ => rfl⟩
  case pick cc a b =>
    split at h
    · obtain ⟨v, hv, h⟩ := bind_world h; cases h
      exact ⟨rfl, fun _ => by rw [hv]; rfl⟩
    · cases h
  case fld ag off n x =>
    split at h
    · obtain ⟨v, hv, h⟩ := bind_world h; cases h
      exact ⟨rfl, fun _ => by rw [hv]; rfl⟩
    · cases h
  case ext i x =>
    split at h
    · obtain ⟨v, hv, h⟩ := bind_world h; cases h
      exact ⟨rfl, fun _ => by rw [hv]; rfl⟩
    · cases h
  case iaddr sz x i =>
    obtain ⟨v, hv, h⟩ := bind_world h
    obtain ⟨n, hn, h⟩ := bind_world h
    simp only [hv, Option.bind_some, hn]
    split at h
    · split at h
      · rename_i hb
        cases h; exact ⟨rfl, fun _ => if_pos hb⟩
      · cases h
    · split at h
      · rename_i hb
        cases h; exact ⟨rfl, fun _ => if_pos hb⟩
      · cases h
    · cases h
  case iaddrA len sz x i =>
    obtain ⟨v, hv, h⟩ := bind_world h
    obtain ⟨n, hn, h⟩ := bind_world h
    simp only [hv, Option.bind_some, hn]
    split at h
    · split at h
      · rename_i hb
        cases h; exact ⟨rfl, fun _ => if_pos hb⟩
      · cases h
    · split at h
      · rename_i hb
        cases h; exact ⟨rfl, fun _ => if_pos hb⟩
      · cases h
    · cases h
  case idx len ag sz x i =>
    obtain ⟨v, hv, h⟩ := bind_world h
    obtain ⟨n, hn, h⟩ := bind_world h
    simp only [hv, Option.bind_some, hn]
    split at h
    · split at h
      · rename_i hb
        obtain ⟨u, hu, h⟩ := bind_world h; cases h
        exact ⟨rfl, fun _ => by rw [if_pos hb, hu]; rfl⟩
      · cases h
    · cases h
  case idxS x i =>
    obtain ⟨v, hv, h⟩ := bind_world h
    obtain ⟨n, hn, h⟩ := bind_world h
    simp only [hv, Option.bind_some, hn]
    split at h
    · split at h
      · rename_i hb
        obtain ⟨u, hu, h⟩ := bind_world h; cases h
        exact ⟨rfl, fun _ => by rw [if_pos hb, hu]; rfl⟩
      · cases h
    · cases h
  case subS x lo hi =>
    split at h
    · obtain ⟨v1, h1, h⟩ := bind_world h
      obtain ⟨v2, h2, h⟩ := bind_world h
      obtain ⟨v3, h3, h⟩ := bind_world h
      obtain ⟨v4, h4, h⟩ := bind_world h
      simp only [h1, h2, h3, h4, Option.bind_some]
      split at h
      · rename_i hb
        cases h; exact ⟨rfl, fun _ => if_pos hb⟩
      · cases h
    · cases h
  case mkfn g a b =>
    obtain ⟨v1, h1, h⟩ := bind_world h
    obtain ⟨v2, h2, h⟩ := bind_world h
    cases h
    exact ⟨rfl, fun _ => by simp only [h1, h2, Option.bind_some]⟩
  all_goals first
    | (obtain ⟨v, hv, h⟩ := bind_world h; cases h; exact ⟨rfl, fun _ => by rw [hv]; rfl⟩)
    | (split at h <;> first | (cases h; exact ⟨rfl, fun _ => rfl⟩) | cases h)

theorem stepOp_quiet {o : ROp} (hp : o.quiet = true) {e : RX → Option CV} {cw cw' : CW} {c : CV} (h : stepOp o e cw = some (c, cw')) : cw' = cw := by
  by_cases hpp : o.pure = true
  · exact (stepOp_pure hpp h).1
  · cases o <;> simp only [ROp.quiet] at hp <;> first | exact absurd hp hpp | skip
    case load ag n x =>
      simp only [stepOp] at h
      split at h
      · split at h
        · obtain ⟨u, hu, h⟩ := bind_world h; cases h; rfl
        · cases h
      · obtain ⟨u, hu, h⟩ := bind_world h; cases h; rfl
      · cases h
    case b2s x =>
      simp only [stepOp] at h
      obtain ⟨v, hv, h⟩ := bind_world h
      split at h
      · cases h
      · obtain ⟨p, hp, h⟩ := bind_world h
        obtain ⟨l, hl, h⟩ := bind_world h
        cases h; rfl
    case lenM x =>
      simp only [stepOp] at h
      split at h
      · cases h; rfl
      · split at h
        · cases h; rfl
        · cases h
      · cases h
    case look ks z ok x k =>
      simp only [stepOp] at h
      obtain ⟨v1, h1, h⟩ := bind_world h
      obtain ⟨v2, h2, h⟩ := bind_world h
      split at h
      · obtain ⟨v3, h3, h⟩ := bind_world h
        split at h <;> cases h <;> rfl
      · cases h
    case sub sz x lo hi mx =>
      simp only [stepOp] at h
      obtain ⟨v1, h1, h⟩ := bind_world h
      obtain ⟨v2, h2, h⟩ := bind_world h
      obtain ⟨v3, h3, h⟩ := bind_world h
      obtain ⟨v4, h4, h⟩ := bind_world h
      obtain ⟨v5, h5, h⟩ := bind_world h
      split at h
      · obtain ⟨v6, h6, h⟩ := bind_world h
        split at h <;> cases h; rfl
      · obtain ⟨v6, h6, h⟩ := bind_world h
        obtain ⟨v7, h7, h⟩ := bind_world h
        split at h <;> cases h; rfl
      · obtain ⟨v6, h6, h⟩ := bind_world h
        split at h <;> cases h; rfl
      · obtain ⟨v6, h6, h⟩ := bind_world h
        obtain ⟨v7, h7, h⟩ := bind_world h
        split at h <;> cases h; rfl
      · obtain ⟨v6, h6, h⟩ := bind_world h
        split at h
        · cases h
        · split at h
          · split at h <;> cases h; rfl
          · cases h
      · obtain ⟨v6, h6, h⟩ := bind_world h
        obtain ⟨v7, h7, h⟩ := bind_world h
        split at h
        · split at h <;> cases h; rfl
        · cases h
      · cases h

/-! ## Contracts -/
def MonoC (C : Ct) : Prop := ∀ vs cw (Q Q' : CV → CW → Prop), (∀ v cw', Q v cw' → Q' v cw') → C vs cw Q → C vs cw Q'
def FeasC (C : Ct) : Prop := ∀ vs cw (Q : CV → CW → Prop), C vs cw Q → ∃ v cw', Q v cw'
/-- What comes out hangs on the arguments alone, and the world stays. -/
def PureC (C : Ct) : Prop := ∃ F : List CV → CV → Prop, (∀ vs v v', F vs v → F vs v' → v = v') ∧ ∀ vs cw (Q : CV → CW → Prop), C vs cw Q ↔ ∃ v, F vs v ∧ Q v cw

/-- What is promised of each of some, is promised of all. -/
def ConjC (C : Ct) : Prop := ∀ (ι : Type) vs cw (Q : ι → CV → CW → Prop) (_ : ι), (∀ i, C vs cw (Q i)) → C vs cw fun v cw' => ∀ i, Q i v cw'

structure KOk (K : Nat → Ct) (pure : Nat → Bool) : Prop where
  mono : ∀ g, MonoC (K g)
  feas : ∀ g, FeasC (K g)
  conj : ∀ g, ConjC (K g)
  pure : ∀ g, pure g = true → PureC (K g)

variable {K : Nat → Ct} {pure : Nat → Bool}

def EnvEq (ρ ρ' : Env) : Prop := ∀ t, ρ.get t = ρ'.get t

theorem EnvEq.ev {ρ ρ' : Env} (h : EnvEq ρ ρ') : ev ρ = ev ρ' := by
  funext x
  cases x with
  | t n => exact h n
  | c v => rfl

theorem EnvEq.put {ρ ρ' : Env} (h : EnvEq ρ ρ') (d : Option Nat) (v : CV) : EnvEq (ρ.put d v) (ρ'.put d v) := by
  cases d with
  | none => exact h
  | some d =>
    intro t
    simp only [Env.put, Env.get]
    split
    · rfl
    · exact h t

theorem wantedR_eq {ρ ρ' : Env} (h : EnvEq ρ ρ') (g : Option (Nat × Bool)) : wantedR g ρ = wantedR g ρ' := by
  unfold wantedR
  split
  · rfl
  · rw [h]

theorem wpOp_mono (hK : KOk K pure) {o : ROp} {ρ : Env} {cw : CW} {Q Q' : CV → CW → Prop} (h : ∀ v cw', Q v cw' → Q' v cw') (hw : wpOp K o ρ cw Q) : wpOp K o ρ cw Q' := by
  unfold wpOp at *
  split at hw
  · obtain ⟨vs, h1, h2⟩ := hw
    exact ⟨vs, h1, hK.mono _ _ _ _ _ h h2⟩
  · obtain ⟨g, f, c, vs, h1, h2, h3⟩ := hw
    exact ⟨g, f, c, vs, h1, h2, hK.mono _ _ _ _ _ h h3⟩
  · obtain ⟨r, h1, h2⟩ := hw
    exact ⟨r, h1, h _ _ h2⟩

theorem wpOp_env {o : ROp} {ρ ρ' : Env} (h : ∀ x ∈ o.reads, ev ρ x = ev ρ' x) {cw : CW} {Q : CV → CW → Prop} (hw : wpOp K o ρ cw Q) : wpOp K o ρ' cw Q := by
  unfold wpOp at *
  split at hw
  · rename_i g xs
    obtain ⟨vs, h1, h2⟩ := hw
    exact ⟨vs, (evs_congr (xs := xs) (e := ev ρ) (e' := ev ρ') h).symm.trans h1, h2⟩
  · rename_i f xs
    obtain ⟨g, fi, c, vs, h1, h2, h3⟩ := hw
    exact ⟨g, fi, c, vs, by rw [← h f (by simp [ROp.reads])]; exact h1, by rw [← evs_congr fun x hx => h x (by simp [ROp.reads, hx])]; exact h2, h3⟩
  · obtain ⟨r, h1, h2⟩ := hw
    exact ⟨r, by rw [← stepOp_congr h]; exact h1, h2⟩

theorem wpl_eq (hK : KOk K pure) : ∀ (l : List RO) {ρ ρ' : Env} {cw : CW} {Q : Env → CW → Prop}, EnvEq ρ ρ' → (∀ ρ1 ρ2 cw, EnvEq ρ1 ρ2 → Q ρ1 cw → Q ρ2 cw) → wpl K l ρ cw Q → wpl K l ρ' cw Q
  | [], ρ, ρ', cw, Q, h, hQ, hw => hQ _ _ _ h hw
  | o :: l, ρ, ρ', cw, Q, h, hQ, hw => by
    obtain ⟨b, hb, hw⟩ := hw
    refine ⟨b, by rw [← wantedR_eq h]; exact hb, ?_⟩
    cases b
    · exact wpl_eq hK l (h.put _ _) hQ hw
    · exact wpOp_mono hK (fun v cw' hv => wpl_eq hK l (h.put _ _) hQ hv) (wpOp_env (fun x _ => by rw [h.ev]) hw)

/-! ## Two that stand side by side -/
def RX.slot : RX → Option Nat
  | .t n => some n
  | .c _ => none

def RO.slots (r : RO) : List Nat := r.op.reads.filterMap RX.slot ++ (match r.guard with | some (t, _) => [t] | none => [])

def RO.isPure (pure : Nat → Bool) (r : RO) : Bool :=
  match r.op with
  | .call g _ => pure g
  | o => o.pure

/-- May they change places? -/
def indep (pure : Nat → Bool) (x y : RO) : Bool :=
  (x.isPure pure || y.isPure pure || (x.op.quiet && y.op.quiet)) &&
  (match x.dst with | some d => !y.slots.contains d && y.dst != some d | none => true) &&
  (match y.dst with | some d => !x.slots.contains d | none => true)

theorem ev_put {ρ : Env} {d : Option Nat} {v : CV} {x : RX} (h : ∀ n, d = some n → x.slot ≠ some n) : ev (ρ.put d v) x = ev ρ x := by
  cases d with
  | none => rfl
  | some n =>
    cases x with
    | c u => rfl
    | t m =>
      have : n ≠ m := fun e => h n rfl (by rw [e]; rfl)
      simp [ev, Env.put, Env.get, this]

theorem put_comm {ρ : Env} {d d' : Option Nat} {v v' : CV} (h : ∀ n, d = some n → d' ≠ some n) : EnvEq ((ρ.put d v).put d' v') ((ρ.put d' v').put d v) := by
  intro t
  cases d with
  | none => rfl
  | some n =>
    cases d' with
    | none => rfl
    | some m =>
      have hne : m ≠ n := fun e => h n rfl (by rw [e])
      simp only [Env.put, Env.get]
      by_cases h1 : m = t
      · by_cases h2 : n = t
        · omega
        · rw [if_pos h1, if_neg h2, if_pos h1]
      · rw [if_neg h1]
        by_cases h2 : n = t
        · rw [if_pos h2, if_pos h2]
        · rw [if_neg h2, if_neg h2, if_neg h1]

theorem indep_spec {x y : RO} (h : indep pure x y = true) : (x.isPure pure = true ∨ y.isPure pure = true ∨ (x.op.quiet = true ∧ y.op.quiet = true)) ∧
    (∀ d, x.dst = some d → d ∉ y.slots) ∧ (∀ d, x.dst = some d → y.dst ≠ some d) ∧ (∀ d, y.dst = some d → d ∉ x.slots) := by
  unfold indep at h
  simp only [Bool.and_eq_true, Bool.or_eq_true] at h
  obtain ⟨⟨h1, h2⟩, h3⟩ := h
  refine ⟨by rcases h1 with (h | h) | h; exact .inl h; exact .inr (.inl h); exact .inr (.inr h), fun d hd => ?_, fun d hd => ?_, fun d hd => ?_⟩
  · rw [hd] at h2; simp at h2; exact h2.1
  · rw [hd] at h2; simp at h2; exact h2.2
  · rw [hd] at h3; simp at h3; exact h3

theorem not_slot {r : RO} {d : Nat} (h : d ∉ r.slots) {x : RX} (hx : x ∈ r.op.reads) : x.slot ≠ some d := by
  intro e
  refine h ?_
  unfold RO.slots
  refine List.mem_append.2 (.inl (List.mem_filterMap.2 ⟨x, hx, e⟩))

theorem wanted_put {r : RO} {ρ : Env} {d : Option Nat} {v : CV} (h : ∀ n, d = some n → n ∉ r.slots) : wantedR r.guard (ρ.put d v) = wantedR r.guard ρ := by
  unfold wantedR
  split
  · rfl
  · rename_i t want hg
    have : ev (ρ.put d v) (.t t) = ev ρ (.t t) := ev_put fun n hn e => h n hn (by
      unfold RO.slots
      rw [hg]
      simp [RX.slot] at e
      simp [e])
    simp only [ev] at this
    rw [this]

/-- One that hangs on its operands alone, and leaves the world. -/
theorem wpOp_pure {r : RO} (hK : KOk K pure) (hp : r.isPure pure = true) : ∃ F : Env → CV → Prop, (∀ ρ v v', F ρ v → F ρ v' → v = v') ∧
    (∀ ρ cw Q, wpOp K r.op ρ cw Q ↔ ∃ v, F ρ v ∧ Q v cw) ∧ ∀ ρ ρ', (∀ x ∈ r.op.reads, ev ρ x = ev ρ' x) → ∀ v, F ρ v → F ρ' v := by
  obtain ⟨dst, op, g, af⟩ := r
  have nocall : (∀ f xs, op ≠ .call f xs) → op.pure = true → ∃ F : Env → CV → Prop, (∀ ρ v v', F ρ v → F ρ v' → v = v') ∧
    (∀ ρ cw Q, wpOp K op ρ cw Q ↔ ∃ v, F ρ v ∧ Q v cw) ∧ ∀ ρ ρ', (∀ x ∈ op.reads, ev ρ x = ev ρ' x) → ∀ v, F ρ v → F ρ' v := by
    intro hc hp
    have hcv : ∀ f xs, op ≠ .callv f xs := by rintro f xs rfl; simp [ROp.pure] at hp
    have hwp : ∀ ρ cw Q, wpOp K op ρ cw Q ↔ ∃ r, stepOp op (ev ρ) cw = some r ∧ Q r.1 r.2 := by
      intro ρ cw Q
      unfold wpOp
      split
      · exact absurd rfl (hc _ _)
      · exact absurd rfl (hcv _ _)
      · exact Iff.rfl
    refine ⟨fun ρ v => ∀ cw, stepOp op (ev ρ) cw = some (v, cw), fun ρ v v' h1 h2 => ?_, fun ρ cw Q => ?_, fun ρ ρ' h v hv cw => by rw [← stepOp_congr h]; exact hv cw⟩
    · have a := h1 ⟨fun _ => none, 0⟩
      have b := h2 ⟨fun _ => none, 0⟩
      rw [a] at b
      cases b; rfl
    · rw [hwp]
      constructor
      · rintro ⟨⟨v, cw'⟩, h1, h2⟩
        obtain ⟨rfl, h3⟩ := stepOp_pure hp h1
        exact ⟨v, h3, h2⟩
      · rintro ⟨v, h1, h2⟩
        exact ⟨(v, cw), h1 cw, h2⟩
  cases op
  case call gg xs =>
    obtain ⟨F, f1, f2⟩ := hK.pure gg hp
    refine ⟨fun ρ v => ∃ vs, evs (ev ρ) xs = some vs ∧ F vs v, ?_, ?_, ?_⟩
    · rintro ρ v v' ⟨vs, h1, h2⟩ ⟨vs', h3, h4⟩
      rw [h1] at h3; cases h3
      exact f1 vs v v' h2 h4
    · intro ρ cw Q
      constructor
      · rintro ⟨vs, h1, h2⟩
        obtain ⟨v, h3, h4⟩ := (f2 vs cw Q).1 h2
        exact ⟨v, ⟨vs, h1, h3⟩, h4⟩
      · rintro ⟨v, ⟨vs, h1, h3⟩, h4⟩
        exact ⟨vs, h1, (f2 vs cw Q).2 ⟨v, h3, h4⟩⟩
    · rintro ρ ρ' h v ⟨vs, h1, h2⟩
      exact ⟨vs, (evs_congr (xs := xs) (e := ev ρ) (e' := ev ρ') h).symm.trans h1, h2⟩
  all_goals exact nocall (by simp) hp

theorem wpOp_feas (hK : KOk K pure) {o : ROp} {ρ : Env} {cw : CW} {Q : CV → CW → Prop} (h : wpOp K o ρ cw Q) : ∃ v cw', Q v cw' := by
  unfold wpOp at h
  split at h
  · obtain ⟨vs, _, h⟩ := h; exact hK.feas _ _ _ _ h
  · obtain ⟨g, f, c, vs, _, _, h⟩ := h; exact hK.feas _ _ _ _ h
  · obtain ⟨r, _, h⟩ := h; exact ⟨_, _, h⟩

/-- What stands with the guard: the operation, or nothing. -/
def wpG (K : Nat → Ct) (o : RO) (ρ : Env) (cw : CW) (Q : CV → CW → Prop) : Prop :=
  ∃ b, wantedR o.guard ρ = some b ∧ (if b then wpOp K o.op ρ cw Q else Q (.tup []) cw)

theorem wpl_cons {o : RO} {l : List RO} {ρ : Env} {cw : CW} {Q : Env → CW → Prop} : wpl K (o :: l) ρ cw Q ↔ wpG K o ρ cw fun v cw' => wpl K l (ρ.put o.dst v) cw' Q := by
  constructor
  · rintro ⟨b, hb, h⟩
    refine ⟨b, hb, ?_⟩
    cases b
    · exact h
    · exact h
  · rintro ⟨b, hb, h⟩
    refine ⟨b, hb, ?_⟩
    cases b
    · exact h
    · exact h

theorem wpG_mono (hK : KOk K pure) {o : RO} {ρ : Env} {cw : CW} {Q Q' : CV → CW → Prop} (h : ∀ v cw', Q v cw' → Q' v cw') (hw : wpG K o ρ cw Q) : wpG K o ρ cw Q' := by
  obtain ⟨b, hb, hw⟩ := hw
  refine ⟨b, hb, ?_⟩
  cases b
  · exact h _ _ hw
  · exact wpOp_mono hK h hw

theorem wpG_feas (hK : KOk K pure) {o : RO} {ρ : Env} {cw : CW} {Q : CV → CW → Prop} (h : wpG K o ρ cw Q) : ∃ v cw', Q v cw' := by
  obtain ⟨b, hb, h⟩ := h
  cases b
  · exact ⟨_, _, h⟩
  · exact wpOp_feas hK h

theorem wpG_put {o : RO} {ρ : Env} {d : Option Nat} {v : CV} (h : ∀ n, d = some n → n ∉ o.slots) {cw : CW} {Q : CV → CW → Prop} : wpG K o (ρ.put d v) cw Q ↔ wpG K o ρ cw Q := by
  have hr : ∀ x ∈ o.op.reads, ev (ρ.put d v) x = ev ρ x := fun x hx => ev_put fun n hn => not_slot (h n hn) hx
  unfold wpG
  rw [wanted_put h]
  constructor
  · rintro ⟨b, hb, hw⟩
    refine ⟨b, hb, ?_⟩
    cases b
    · exact hw
    · exact wpOp_env hr hw
  · rintro ⟨b, hb, hw⟩
    refine ⟨b, hb, ?_⟩
    cases b
    · exact hw
    · exact wpOp_env (fun x hx => (hr x hx).symm) hw

/-- A pure one, with its guard. -/
theorem wpG_pure {r : RO} (hK : KOk K pure) (hp : r.isPure pure = true) : ∃ F : Env → CV → Prop, (∀ ρ v v', F ρ v → F ρ v' → v = v') ∧ (∀ ρ cw Q, wpG K r ρ cw Q ↔ ∃ v, F ρ v ∧ Q v cw) := by
  obtain ⟨F, f1, f2, f3⟩ := wpOp_pure hK hp
  refine ⟨fun ρ v => ∃ b, wantedR r.guard ρ = some b ∧ (if b then F ρ v else v = .tup []), ?_, ?_⟩
  · rintro ρ v v' ⟨b, hb, h⟩ ⟨b', hb', h'⟩
    rw [hb] at hb'; cases hb'
    cases b
    · exact h.trans h'.symm
    · exact f1 ρ v v' h h'
  · intro ρ cw Q
    constructor
    · rintro ⟨b, hb, h⟩
      cases b
      · exact ⟨_, ⟨false, hb, rfl⟩, h⟩
      · obtain ⟨v, h1, h2⟩ := (f2 ρ cw Q).1 h
        exact ⟨v, ⟨true, hb, h1⟩, h2⟩
    · rintro ⟨v, ⟨b, hb, h1⟩, h2⟩
      refine ⟨b, hb, ?_⟩
      cases b
      · cases h1; exact h2
      · exact (f2 ρ cw Q).2 ⟨v, h1, h2⟩

/-- One that leaves the world. -/
theorem wpG_quiet {r : RO} (hp : r.op.quiet = true) {ρ : Env} {cw : CW} {Q : CV → CW → Prop} : wpG K r ρ cw Q ↔ ∃ v, (∃ b, wantedR r.guard ρ = some b ∧ (if b then stepOp r.op (ev ρ) cw = some (v, cw) else v = .tup [])) ∧ Q v cw := by
  have hwp : ∀ Q, wpOp K r.op ρ cw Q ↔ ∃ x, stepOp r.op (ev ρ) cw = some x ∧ Q x.1 x.2 := by
    intro Q
    unfold wpOp
    split
    · rename_i h; rw [h] at hp; simp [ROp.quiet, ROp.pure] at hp
    · rename_i h; rw [h] at hp; simp [ROp.quiet, ROp.pure] at hp
    · exact Iff.rfl
  constructor
  · rintro ⟨b, hb, h⟩
    cases b
    · exact ⟨_, ⟨false, hb, rfl⟩, h⟩
    · obtain ⟨⟨v, cw'⟩, h1, h2⟩ := (hwp Q).1 h
      cases stepOp_quiet hp h1
      exact ⟨v, ⟨true, hb, h1⟩, h2⟩
  · rintro ⟨v, ⟨b, hb, h1⟩, h2⟩
    refine ⟨b, hb, ?_⟩
    cases b
    · cases h1; exact h2
    · exact (hwp Q).2 ⟨(v, cw), h1, h2⟩

theorem wpl_swap (hK : KOk K pure) {x y : RO} {l : List RO} {ρ : Env} {cw : CW} {Q : Env → CW → Prop} (hi : indep pure x y = true) (hQ : ∀ ρ1 ρ2 cw, EnvEq ρ1 ρ2 → Q ρ1 cw → Q ρ2 cw)
    (h : wpl K (x :: y :: l) ρ cw Q) : wpl K (y :: x :: l) ρ cw Q := by
  obtain ⟨hc, h1, h2, h3⟩ := indep_spec hi
  rw [wpl_cons] at h ⊢
  have hy : ∀ v cw' Q', wpG K y (ρ.put x.dst v) cw' Q' ↔ wpG K y ρ cw' Q' := fun v cw' Q' => wpG_put h1
  have hx : ∀ v cw' Q', wpG K x (ρ.put y.dst v) cw' Q' ↔ wpG K x ρ cw' Q' := fun v cw' Q' => wpG_put h3
  have hend : ∀ vx vy cw', wpl K l ((ρ.put x.dst vx).put y.dst vy) cw' Q → wpl K l ((ρ.put y.dst vy).put x.dst vx) cw' Q := fun vx vy cw' hw => wpl_eq hK l (put_comm h2) hQ hw
  have h' : wpG K x ρ cw fun vx cw' => wpG K y ρ cw' fun vy cw'' => wpl K l ((ρ.put y.dst vy).put x.dst vx) cw'' Q :=
    wpG_mono hK (fun vx cw' hw => by
      rw [wpl_cons, hy] at hw
      exact wpG_mono hK (fun vy cw'' hv => hend vx vy cw'' hv) hw) h
  have goal : (wpG K y ρ cw fun vy cw' => wpG K x ρ cw' fun vx cw'' => wpl K l ((ρ.put y.dst vy).put x.dst vx) cw'' Q) → wpG K y ρ cw fun vy cw' => wpl K (x :: l) (ρ.put y.dst vy) cw' Q :=
    wpG_mono hK fun vy cw' hw => by rw [wpl_cons, hx]; exact hw
  refine goal ?_
  rcases hc with hc | hc | ⟨hc1, hc2⟩
  · obtain ⟨F, f1, f2⟩ := wpG_pure hK hc
    rw [f2] at h'
    obtain ⟨vx, hvx, hw⟩ := h'
    exact wpG_mono hK (fun vy cw' hv => (f2 _ _ _).2 ⟨vx, hvx, hv⟩) hw
  · obtain ⟨F, f1, f2⟩ := wpG_pure hK hc
    have h'' : wpG K x ρ cw fun vx cw' => ∃ vy, F ρ vy ∧ wpl K l ((ρ.put y.dst vy).put x.dst vx) cw' Q := wpG_mono hK (fun vx cw' hv => (f2 _ _ _).1 hv) h'
    obtain ⟨_, _, vy, hvy, _⟩ := wpG_feas hK h''
    refine (f2 _ _ _).2 ⟨vy, hvy, wpG_mono hK (fun vx cw' hv => ?_) h''⟩
    obtain ⟨vy', hvy', hv⟩ := hv
    cases f1 _ _ _ hvy hvy'
    exact hv
  · rw [wpG_quiet hc1] at h'
    obtain ⟨vx, hvx, hw⟩ := h'
    rw [wpG_quiet hc2] at hw ⊢
    obtain ⟨vy, hvy, hw⟩ := hw
    exact ⟨vy, hvy, (wpG_quiet hc1).2 ⟨vx, hvx, hw⟩⟩

/-- One that hangs on none of those ahead may go first. -/
theorem wpl_front (hK : KOk K pure) {y : RO} {l : List RO} {Q : Env → CW → Prop} (hQ : ∀ ρ1 ρ2 cw, EnvEq ρ1 ρ2 → Q ρ1 cw → Q ρ2 cw) : ∀ (js : List RO) {ρ : Env} {cw : CW}, (∀ x ∈ js, indep pure x y = true) →
    wpl K (js ++ y :: l) ρ cw Q → wpl K (y :: (js ++ l)) ρ cw Q
  | [], _, _, _, h => h
  | x :: js, ρ, cw, hi, h => by
    have hrest : wpl K (x :: (y :: (js ++ l))) ρ cw Q := by
      rw [List.cons_append, wpl_cons] at h
      rw [wpl_cons]
      exact wpG_mono hK (fun v cw' hv => wpl_front hK hQ js (fun z hz => hi z (by simp [hz])) hv) h
    exact wpl_swap hK (hi x (by simp)) hQ hrest

end Go.Cs

/- From the canonical machine's weakest precondition to Go's. -/
namespace Go.Cs
open Go.RowKit (Below)
variable {P : Program} {fid : FuncId → Option Nat} {N : Nat} {w0 : World} {X : Cx} {cw : CW} {w : World} {ρ : Env} {a : Act} {K : Nat → Ct} {pure : Nat → Bool} {G : Nat → World → Prop}

/-- Arguments, and Go's. -/
def ArgsR (fid : FuncId → Option Nat) (X : Cx) (w : World) (args : List CV) (rargs : Array Value) : Prop :=
  rargs.size = args.length ∧ ∀ (i : Nat) (c : CV), args[i]? = some c → VR fid X w c (rargs.getD i undef)

theorem ArgsR.append {l1 l2 : List CV} {a1 a2 : Array Value} (h1 : ArgsR fid X w l1 a1) (h2 : ArgsR fid X w l2 a2) : ArgsR fid X w (l1 ++ l2) (a1 ++ a2) := by
  obtain ⟨s1, h1⟩ := h1
  obtain ⟨s2, h2⟩ := h2
  refine ⟨by simp only [Array.size_append, List.length_append, s1, s2], fun i c hc => ?_⟩
  rw [Array.getD_eq_getD_getElem?, Array.getElem?_append]
  rw [List.getElem?_append] at hc
  by_cases hi : i < l1.length
  · rw [if_pos hi] at hc
    rw [if_pos (s1 ▸ hi)]
    have := h1 i c hc
    rwa [Array.getD_eq_getD_getElem?] at this
  · rw [if_neg hi] at hc
    rw [if_neg (s1 ▸ hi), s1]
    have := h2 _ c hc
    rwa [Array.getD_eq_getD_getElem?] at this

theorem args_of {args : Array Operand} {vs : List CV} (k1 : vs.length = args.size) (k2 : ∀ (i : Nat) (c : CV), vs[i]? = some c → VR fid X w c ((args.map a.eval).getD i undef)) : ArgsR fid X w vs (args.map a.eval) :=
  ⟨by simpa using k1.symm, k2⟩

/-- A contract holds of a function. -/
structure Sound (P : Program) (fid : FuncId → Option Nat) (G : Nat → World → Prop) (f : FuncId) (C : Ct) : Prop where
  enter : ∃ fn, P.funcs[f]? = some fn ∧ fn.name ≠ "runtime.NumGoroutine" ∧ fn.body.isSome = true
  calls : ∀ args cw Q, C args cw Q → ∀ N w0 X w rargs, G N w0 → Sim fid N w0 X cw w → ArgsR fid X w args rargs →
    Calls P f rargs w fun e w' => ∃ c v cw' X', e = .returned v ∧ Q c cw' ∧ Sim fid N w0 X' cw' w' ∧ Ext X w X' w' ∧ VR fid X' w' c v

def KSound (P : Program) (fid : FuncId → Option Nat) (G : Nat → World → Prop) (K : Nat → Ct) : Prop := ∀ f g, fid f = some g → (∃ args cw Q, K g args cw Q) → Sound P fid G f (K g)

theorem callFunc_run {f : FuncId} (h : ∃ fn, P.funcs[f]? = some fn ∧ fn.name ≠ "runtime.NumGoroutine" ∧ fn.body.isSome = true) (args : Array Value) : (callFunc f args).run P w = .ok (.enter f args) w := by
  obtain ⟨fn, h1, h2, h3⟩ := h
  obtain ⟨c, hc⟩ := Option.isSome_iff_exists.1 h3
  simp [callFunc, h1, h2, hc]

/-- Only calls resolve to calls. -/
def ROp.noCall : ROp → Bool
  | .call _ _ | .callv _ _ => false
  | _ => true

theorem noCall_bind {α : Type} {o : Option α} {f : α → Option ROp} {ro : ROp} (h : o.bind f = some ro) (k : ∀ x, f x = some ro → ro.noCall = true) : ro.noCall = true := by
  obtain ⟨x, _, hx⟩ := Option.bind_eq_some_iff.1 h
  exact k x hx

theorem resBuiltin_noCall {b : Builtin} {ts : Array TypeId} {xs : List Operand} {ro : ROp} (h : resBuiltin P fid b ts xs = some ro) : ro.noCall = true := by
  unfold resBuiltin at h
  repeat' (first | (refine noCall_bind h ?_; clear h; intro _ h) | (injection h with h; subst h; rfl) | (injection h; done) | split at h)

theorem resOp_noCall {own : Bool} {o : Op} {ro : ROp} (h : resOp P fid own o = some ro) (hc : ∀ c, o ≠ .call c) : ro.noCall = true := by
  unfold resOp at h
  repeat' (first | (exact absurd rfl (hc _)) | (refine noCall_bind h ?_; clear h; intro _ h) | (injection h with h; subst h; rfl) | (injection h; done) | split at h)

/-- One operation. -/
theorem one_ok (hK : KSound P fid G K) (hG : G N w0) {own : Bool} {o : Oper} {ro : ROp} {Qc : CV → CW → Prop} {next : Act → World → Prop} {Q : Exit → Act → World → Prop}
    (hr : resOp P fid own o.op = some ro) (hE : EnvR fid X w ρ a) (hS : Sim fid N w0 X cw w) (hw : wpOp K ro ρ cw Qc)
    (hn : ∀ c v cw' w' X', Qc c cw' → Sim fid N w0 X' cw' w' → Ext X w X' w' → VR fid X' w' c v → next (a.put o.dst v) w') : o.wp P a w next Q := by
  have nocall : (∀ g xs, ro ≠ .call g xs) → (∀ f xs, ro ≠ .callv f xs) → o.wp P a w next Q := by
    intro h1 h2
    have hw' : ∃ r, stepOp ro (ev ρ) cw = some r ∧ Qc r.1 r.2 := by
      unfold wpOp at hw
      split at hw
      · exact absurd rfl (h1 _ _)
      · exact absurd rfl (h2 _ _)
      · exact hw
    obtain ⟨⟨c, cw'⟩, hs, hq⟩ := hw'
    obtain ⟨v, w', X', hrun, s, ex, hv⟩ := op_ok hr hE hS hs
    unfold Oper.wp
    rcases hrun with hrun | ⟨hrun, rfl⟩
    · rw [hrun]; exact hn _ _ _ _ _ hq s ex hv
    · rw [hrun]; exact hn _ _ _ _ _ hq s ex hv
  have docall : ∀ (f : FuncId) (g : Nat) (rargs : Array Value) (args : List CV), (execOp a.eval o).run P w = (callFunc f rargs).run P w → fid f = some g → K g args cw Qc → ArgsR fid X w args rargs → o.wp P a w next Q := by
    intro f g rargs args hrun hf hk ha
    have hs := hK f g hf ⟨_, _, _, hk⟩
    unfold Oper.wp
    rw [hrun, callFunc_run hs.enter]
    refine Calls.mono (hs.calls args cw Qc hk N w0 X w rargs hG hS ha) ?_
    rintro e w' ⟨c, v, cw', X', rfl, hq, s, ex, hv⟩
    exact hn _ _ _ _ _ hq s ex hv
  by_cases hc : ro.noCall = true
  · exact nocall (by rintro g xs rfl; cases hc) (by rintro g xs rfl; cases hc)
  obtain ⟨dst, op, type, pos, after, guard⟩ := o
  simp only at hr
  have hop : ∃ cc, op = .call cc := by
    refine Classical.byContradiction fun hne => hc (resOp_noCall hr fun c hh => hne ⟨c, hh⟩)
  obtain ⟨⟨callee, args, argTypes⟩, rfl⟩ := hop
  cases callee with
  | builtin b => exact absurd (resBuiltin_noCall hr) hc
  | invoke r m => cases hr
  | value f =>
    have hv : ∀ (fx : RX) (xs : List RX), rx fid f = some fx → rxs fid args.toList = some xs → ro = .callv fx xs →
        Oper.wp P ⟨dst, .call ⟨.value f, args, argTypes⟩, type, pos, after, guard⟩ a w next Q := by
      rintro fx xs hf hxs rfl
      obtain ⟨g, first, caps, vs, hfx, hvs, hk⟩ := hw
      have hvf := rx_vr hf hfx hE
      obtain ⟨k1, k2⟩ := rxs_vr hxs hvs hE
      generalize hfv : a.eval f = rf at hvf
      cases hvf with
      | @fn ff _ _ _ f2 c2 hfid hl1 hl2 hf2 hc2 =>
        refine docall ff g (f2 ++ args.map a.eval ++ c2) (first ++ vs ++ caps) ?_ hfid hk (((show ArgsR fid X w first f2 from ⟨hl1, hf2⟩).append (args_of (by simpa using k1) fun i c hc => ?_)).append ⟨hl2, hc2⟩)
        · simp only [execOp, resolve, Sem.run_bind, Sem.run_pure, Result.andThen_ok, invoke, hfv, Deferred.ofValue]
        · simpa [Array.getD_eq_getD_getElem?] using k2 i c hc
    cases f with
    | func f =>
      simp only [resOp, Option.bind_eq_some_iff] at hr
      obtain ⟨g', hg, xs', hxs, hr⟩ := hr
      cases hr
      obtain ⟨vs, hvs, hk⟩ := hw
      obtain ⟨k1, k2⟩ := rxs_vr hxs hvs hE
      refine docall f g' (args.map a.eval) vs ?_ hg hk ⟨by simpa using k1.symm, fun i c hc => ?_⟩
      · simp only [execOp, resolve, Act.eval, Deferred.ofValue, Sem.run_bind, Sem.run_pure, Result.andThen_ok, invoke]
        simp
      · have := k2 i c hc
        simpa [Array.getD_eq_getD_getElem?] using this
    | _ =>
      simp only [resOp, Option.bind_eq_some_iff] at hr
      obtain ⟨fx, hf, xs', hxs, hr⟩ := hr
      cases hr
      exact hv _ _ hf hxs rfl

end Go.Cs

/- From the canonical machine's weakest precondition to Go's: regions and code. -/
namespace Go.Cs
open Go.RowKit (Below)
variable {P : Program} {fid : FuncId → Option Nat} {N : Nat} {w0 : World} {X : Cx} {cw : CW} {w : World} {ρ : Env} {a : Act} {K : Nat → Ct} {pure : Nat → Bool} {G : Nat → World → Prop}

/-- A place in a function: as the canonical machine has it, and as Go has it. -/
structure St (fid : FuncId → Option Nat) (N : Nat) (w0 : World) (X0 : Cx) (w1 : World) (n : Nat) (X : Cx) (cw : CW) (w : World) (ρ : Env) (a : Act) : Prop where
  sim : Sim fid N w0 X cw w
  ext : Ext X0 w1 X w
  env : EnvR fid X w ρ a
  size : a.tmps.size = n
  nodef : a.defers = []

def exOf : RE → Exit
  | .nx => .normal
  | .exit i => .exit i
  | .ret => .ret

def Res (fid : FuncId → Option Nat) (N : Nat) (w0 : World) (X0 : Cx) (w1 : World) (n : Nat) (Q : RE → Env → CW → Prop) : Exit → Act → World → Prop :=
  fun e a w => ∃ re X ρ cw, exOf re = e ∧ St fid N w0 X0 w1 n X cw w ρ a ∧ Q re ρ cw

/-- An operation and its resolved form. -/
structure OpR (P : Program) (fid : FuncId → Option Nat) (own : List Nat) (nt : Nat) (ops : Array Oper) (draw : Bool) (o : Oper) (r : RO) : Prop where
  op : resOp P fid (ownAt own o.dst) o.op = some r.op
  guard : resGuard ops o.guard = some r.guard
  ok : dstOk nt o.dst = true
  dst : r.dst = o.dst
  after : r.after = resAfter draw o

theorem resOps_spec {own : List Nat} {nt : Nat} {ops : Array Oper} {draw : Bool} : ∀ {os : List Oper} {l : List RO}, resOps P fid own nt ops draw os = some l →
    l.length = os.length ∧ ∀ (i : Nat) (o : Oper), os[i]? = some o → ∃ r : RO, l[i]? = some r ∧ OpR P fid own nt ops draw o r
  | [], l, h => by cases h; simp
  | o :: os, l, h => by
    simp only [resOps, Option.bind_eq_some_iff] at h
    obtain ⟨op, h1, g, h2, h⟩ := h
    split at h
    · rename_i h3
      simp only [Option.bind_eq_some_iff] at h
      obtain ⟨l', h4, h⟩ := h
      cases h
      obtain ⟨k1, k2⟩ := resOps_spec h4
      refine ⟨by simp [k1], fun i o' ho => ?_⟩
      cases i with
      | zero =>
        simp only [List.getElem?_cons_zero, Option.some.injEq] at ho ⊢
        subst ho
        exact ⟨_, rfl, h1, h2, h3, rfl, rfl⟩
      | succ i =>
        simp only [List.getElem?_cons_succ] at ho ⊢
        exact k2 i o' ho
    · cases h

theorem wanted_ok {ops : Array Oper} {o : Oper} {g : Option (Nat × Bool)} {b : Bool} (hg : resGuard ops o.guard = some g) (hw : wantedR g ρ = some b) (hE : EnvR fid X w ρ a) :
    Region.wanted o (yielded ops a.tmps) = b := by
  unfold Region.wanted
  cases hog : o.guard with
  | none =>
    rw [hog] at hg
    cases hg; cases hw; rfl
  | some jw =>
    obtain ⟨j, want⟩ := jw
    rw [hog] at hg
    simp only [resGuard, Option.bind_eq_some_iff] at hg
    obtain ⟨t, ⟨oj, hj, hd⟩, hg⟩ := hg
    cases hg
    simp only [wantedR] at hw
    simp only [yielded, hj, Option.bind_some, hd]
    split at hw
    · rename_i bb hbb
      cases hw
      obtain ⟨h1, h2⟩ := hE t _ hbb
      have := h2.bool_inv
      rw [Array.getD_eq_getD_getElem?, Array.getElem?_eq_getElem h1] at this
      simp only [Option.getD_some] at this
      rw [Array.getElem?_eq_getElem h1, this]
      cases bb <;> cases want <;> rfl
    · rename_i hbb
      cases hw
      obtain ⟨h1, h2⟩ := hE t _ hbb
      have := h2.tup0_inv
      rw [Array.getD_eq_getD_getElem?, Array.getElem?_eq_getElem h1] at this
      simp only [Option.getD_some] at this
      rw [Array.getElem?_eq_getElem h1, this]
      rfl
    · cases hw

theorem St.put {X0 : Cx} {w1 : World} {n : Nat} (h : St fid N w0 X0 w1 n X cw w ρ a) {d : Option Nat} {c : CV} {v : Value} {X' : Cx} {cw' : CW} {w' : World}
    (hd : dstOk n d = true) (s : Sim fid N w0 X' cw' w') (ex : Ext X w X' w') (hv : VR fid X' w' c v) : St fid N w0 X0 w1 n X' cw' w' (ρ.put d c) (a.put d v) where
  sim := s
  ext := h.ext.trans ex
  env := (h.env.mono ex).put (by rw [h.size]; exact hd) hv
  size := by rw [← h.size]; cases d <;> simp [Act.put]
  nodef := by rw [← h.nodef]; cases d <;> simp [Act.put]

/-- One operation of a region. -/
theorem opG_ok (hK : KSound P fid G K) (hG : G N w0) {own : List Nat} {n : Nat} {ops : Array Oper} {draw : Bool} {o : Oper} {r : RO} {X0 : Cx} {w1 : World} {Qc : CV → CW → Prop} {next : Act → World → Prop}
    {Q : Exit → Act → World → Prop} (hr : OpR P fid own n ops draw o r) (hS : St fid N w0 X0 w1 n X cw w ρ a) (hw : wpG K r ρ cw Qc)
    (hn : ∀ c cw' X' w' a', Qc c cw' → St fid N w0 X0 w1 n X' cw' w' (ρ.put r.dst c) a' → next a' w') {R : Prop} :
    if Region.wanted o (yielded ops a.tmps) then o.wp P a w next Q ∨ R else next (a.put o.dst undef) w := by
  obtain ⟨b, hb, hw⟩ := hw
  rw [wanted_ok hr.guard hb hS.env]
  cases b
  · simp only [Bool.false_eq_true, if_false] at hw ⊢
    refine hn _ _ X w _ hw ?_
    rw [hr.dst]
    exact hS.put hr.ok hS.sim (Ext.refl _ _) .tup0
  · simp only [if_true] at hw ⊢
    refine .inl (one_ok hK hG hr.op hS.env hS.sim hw fun c v cw' w' X' hq s ex hv => hn c cw' X' w' _ hq ?_)
    rw [hr.dst]
    exact hS.put hr.ok s ex hv

theorem St.drew {X0 : Cx} {w1 : World} {n : Nat} (h : St fid N w0 X0 w1 n X cw w ρ a) : St fid N w0 X0 w1 n X cw { w with drawn := w.drawn + 1 } ρ a := by
  obtain ⟨s, ex⟩ := h.sim.same (Below.drew (Below.refl _ w))
  exact ⟨s, h.ext.trans ex, h.env.mono ex, h.size, h.nodef⟩

/-- In the text's order. -/
theorem region_text (hK : KSound P fid G K) (hG : G N w0) {own : List Nat} {n : Nat} {ops : Array Oper} {draw : Bool} {X0 : Cx} {w1 : World} {Q : RE → Env → CW → Prop} {live : Option (List Nat)} {l : List RO}
    (hl : ∀ (i : Nat) (o : Oper), ops[i]? = some o → ∃ r : RO, l[i]? = some r ∧ OpR P fid own n ops draw o r) (hsz : l.length = ops.size) :
    ∀ (m k : Nat) {X : Cx} {cw : CW} {w : World} {ρ : Env} {a : Act}, k + m = ops.size → St fid N w0 X0 w1 n X cw w ρ a → wpl K (l.drop k) ρ cw (fun ρ' cw' => Q .nx (ρ'.keep live) cw') →
      wpOps P ops (Res fid N w0 X0 w1 n Q) (List.range' k m) a w
  | 0, k, X, cw, w, ρ, a, hk, hS, hw => by
    rw [List.drop_of_length_le (by omega)] at hw
    exact ⟨.nx, X, _, cw, rfl, ⟨hS.sim, hS.ext, hS.env.keep live, hS.size, hS.nodef⟩, hw⟩
  | m + 1, k, X, cw, w, ρ, a, hk, hS, hw => by
    have hlt : k < ops.size := by omega
    obtain ⟨r, hr, hor⟩ := hl k ops[k] (Array.getElem?_eq_getElem hlt)
    have hd : l.drop k = r :: l.drop (k + 1) := by
      obtain ⟨h1, h2⟩ := List.getElem?_eq_some_iff.1 hr
      rw [List.drop_eq_getElem_cons h1, h2]
    rw [hd] at hw
    rw [List.range'_succ]
    simp only [wpOps, Array.getElem?_eq_getElem hlt]
    exact opG_ok hK hG hor hS (wpl_cons.1 hw) fun c cw' X' w' a' hq hs => region_text hK hG hl hsz m (k + 1) (by omega) hs hq

end Go.Cs
