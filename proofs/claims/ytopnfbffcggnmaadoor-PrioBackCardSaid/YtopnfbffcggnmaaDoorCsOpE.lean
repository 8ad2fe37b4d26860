/- All operations that are no calls and touch no map. -/
import Derived.Test.YtopnfbffcggnmaaDoorCsOpD
namespace Go.Cs
open Go.RowKit (Below)
variable {P : Program} {fid : FuncId → Option Nat} {N : Nat} {w0 : World} {X : Cx} {cw : CW} {w : World} {ρ : Env} {a : Act}

theorem pu_some {v : Option CV} {c : CV} {cw cw' : CW} (h : (v.bind fun v => some (v, cw)) = some (c, cw')) : v = some c ∧ cw' = cw := by
  simp only [Option.bind_eq_some_iff] at h
  obtain ⟨u, hu, h⟩ := h
  cases h
  exact ⟨hu, rfl⟩

theorem box_ok {t : TypeId} {n : Nat} {v : CV} {u : Value} (hS : Sim fid N w0 X cw w) (hv : VR fid X w v u) (h1 : (v.cells.all CV.one) = true) :
    OpOk fid N w0 X P (do pure (.value (← Instr.box t u))) w (.ptr cw.next 0) (cw.push (.cells v.cells)) := by
  obtain ⟨X', s, e, hnx, hM⟩ := new_mut (T := t) (fr := (0, 0)) hS (cs := v.cells) (rcs := u.cells) (by rw [hv.cells_size]; exact Nat.le_refl _) (.inl (Nat.le_refl _))
    fun i c hc => ⟨List.all_eq_true.1 h1 c (List.mem_of_getElem? hc), hv.cells_at i c hc⟩
  refine OpOk.val (v := .pointer (some ⟨w.heap.size, 0, none⟩)) ?_ s e (.ptr (by omega) fun m hm => ?_)
  · simp [Instr.box, newVar, newRow]
  · rw [hM] at hm; cases hm; rfl

theorem alloc_ok {t : TypeId} {z : List CV} (hS : Sim fid N w0 X cw w) (hz : zeroOf P t = some z) :
    OpOk fid N w0 X P (do pure (.value (← Instr.alloc t true (.tuple #[])))) w (.ptr cw.next 0) (cw.push (.cells z)) := by
  obtain ⟨i, zv, hi, hzv, hsz, hzl, hzr, hrun, hso⟩ := zeroOf_spec (fid := fid) (X := X) (w := w) hz
  obtain ⟨X', s, e, hnx, hM⟩ := new_mut (T := t) (fr := (0, 0)) hS (cs := z) (rcs := zv.cells) (by rw [hzr.1]; exact Nat.le_refl _) (.inl (Nat.le_refl _)) hzr.2
  refine OpOk.val (v := .pointer (some ⟨w.heap.size, 0, none⟩)) ?_ s e (.ptr (by omega) fun m hm => ?_)
  · simp [Instr.alloc, hrun, newVar, newRow]
  · rw [hM] at hm; cases hm; rfl

/-- A canonical address, and Go's. -/
theorem addr_ok {x : CV} {v : Value} (hS : Sim fid N w0 X cw w) (hv : VR fid X w x v) :
    (∀ b off cs, x = .ptr b off → cw.get b = some (.cells cs) → ∃ m, X.M b = some m ∧ v = .pointer (some ⟨m.1, m.2.1 + off, none⟩) ∧ RowAt fid X w m.1 m.2.1 cs) ∧
    (∀ cs off, x = .row cs off → ∃ r o, v = .pointer (some ⟨r, o + off, none⟩) ∧ RowAt fid X w r o cs) := by
  constructor
  · rintro b off cs rfl hg
    obtain ⟨m, hm, hr⟩ := hS.rowAt hg
    cases hv with
    | ptr h1 h2 => exact ⟨m, hm, by rw [h2 m hm], hr⟩
  · rintro cs off rfl
    obtain ⟨r, o, h1, h2, _⟩ := hv.row_inv
    exact ⟨r, o, h1, h2⟩

theorem store_ok {t : TypeId} {n b off : Nat} {cs : List CV} {u : CV} {va vu : Value} (hS : Sim fid N w0 X cw w) (ht : szOf P t = some n) (hx : VR fid X w (.ptr b off) va) (hg : cw.get b = some (.cells cs))
    (hu : VR fid X w u vu) (hn : u.cells.length = n) (hle : off + n ≤ cs.length) (h1 : (u.cells.all CV.one) = true) :
    OpOk fid N w0 X P (do Instr.storeAt t va vu; pure .skip) w (.tup []) (cw.set b (.cells (splice cs off u.cells))) := by
  obtain ⟨m, w', hm, hst, s, e⟩ := store_sim (P := P) hS hg (off := off) (ds := u.cells) (vs := vu.cells.toList) (by rw [hn]; exact hle) (by rw [Array.length_toList, hu.cells_size])
    fun i c hc => ⟨List.all_eq_true.1 h1 c (List.mem_of_getElem? hc), by
      have := hu.cells_at i c hc
      rw [Array.getD_eq_getD_getElem?] at this
      simpa using this⟩
  cases hx with
  | ptr h3 h4 =>
    rw [h4 m hm]
    refine OpOk.unit (w' := w') ?_ s e
    have hsz : vu.cells.size = n := by rw [hu.cells_size, hn]
    simp only [Instr.storeAt, Instr.sureAddr, Sem.run_bind, Sem.run_pure, Result.andThen_ok, storeVar, szOf_run ht, hsz]
    simp only [ne_eq, not_true_eq_false, if_false, Sem.run_bind, Sem.run_pure, Result.andThen_ok]
    exact hst

theorem fieldPlace_run {f : Field} {n : Nat} {r o : Nat} (h : szOf P f.type = some (n + 1)) : (fieldPlace ⟨r, o, none⟩ f).run P w = .ok ⟨r, o + f.offset, none⟩ w := by
  simp [fieldPlace, szOf_run h, add_none]

theorem index_run {t : TypeId} {v vi : Value} {k : IntKind} {i : Int} (hi : vi = .int k i) : (asIntOf vi).run P w = .ok (k, i) w := by subst hi; rfl

theorem copy_ok {t e : TypeId} {sz : Nat} {y : CV} {vx vy : Value} {p : List CV × Nat} {b off n : Nat} {cs : List CV} {ty u : TypeId} (hS : Sim fid N w0 X cw w) (ht : P.underlying t = some (.slice e)) (hs : szOf P e = some sz)
    (hx : VR fid X w (.ref b off n sz) vx) (hy : VR fid X w y vy) (hp : seqOf cw sz y = some p) (hg : cw.get b = some (.cells cs)) (hle : off + n * sz ≤ cs.length) :
    OpOk fid N w0 X P (do pure (.value (← Builtin.copy_ #[t, u] ty #[vx, vy]))) w (.int .i64 (min p.2 n : Nat)) (cw.set b (.cells (splice cs off (p.1.take (min p.2 n * sz))))) := by
  obtain ⟨h1, h2, ys, h3, _, h4, h5⟩ := seq_all (P := P) hS hy hp
  have hmin : min p.2 n * sz ≤ p.2 * sz := Nat.mul_le_mul_right _ (Nat.min_le_left _ _)
  have hmin2 : min p.2 n * sz ≤ n * sz := Nat.mul_le_mul_right _ (Nat.min_le_right _ _)
  have hlen : (p.1.take (min p.2 n * sz)).length = min p.2 n * sz := by rw [List.length_take]; omega
  obtain ⟨m, w', hm, hst, s, ex⟩ := store_sim (P := P) hS hg (off := off) (ds := p.1.take (min p.2 n * sz)) (vs := ys.take (min p.2 n * sz)) (by rw [hlen]; omega) (by rw [hlen, List.length_take]; omega)
    fun i c hc => by
      rw [List.getElem?_take] at hc
      split at hc
      · rename_i hi
        rw [List.getElem?_take, if_pos hi]
        exact h5 i c hc
      · cases hc
  have hfirst : (Builtin.firstCells sz (min p.2 n) vy).run P w = .ok (ys.take (min p.2 n * sz)).toArray w := h4 w rfl _ (Nat.min_le_left _ _)
  cases hx with
  | @ref _ _ _ _ cap ad k1 k2 k3 =>
    obtain ⟨rfl, _⟩ := k3 m hm
    refine OpOk.val (v := .int .i64 (min p.2 n : Nat)) (w' := w') ?_ s ex (.int _ _)
    simp only [Builtin.copy_, List.getElem?_toArray, List.getElem?_cons_zero, List.getElem?_cons_succ, Sem.run_bind, run_underlying ht, Result.andThen_ok, Sem.run_pure, h1, szOf_run hs]
    rw [show Nat.min p.2 n = min p.2 n from rfl, hfirst]
    simp only [Result.andThen_ok, hst, Sem.run_pure]
    rfl

theorem copy_none {t e : TypeId} {sz : Nat} {y : CV} {vx vy : Value} {p : List CV × Nat} {n cap : Nat} {base : Option Addr} {ty u : TypeId} (hS : Sim fid N w0 X cw w) (ht : P.underlying t = some (.slice e)) (hs : szOf P e = some sz)
    (hx : vx = .slice base n cap) (hy : VR fid X w y vy) (hp : seqOf cw sz y = some p) (h0 : min p.2 n = 0) :
    OpOk fid N w0 X P (do pure (.value (← Builtin.copy_ #[t, u] ty #[vx, vy]))) w (.int .i64 0) cw := by
  obtain ⟨h1, h2, ys, h3, _, h4, h5⟩ := seq_all (P := P) hS hy hp
  subst hx
  refine OpOk.pur (v := .int .i64 0) hS ?_ (.int _ _)
  have hfirst := h4 w rfl 0 (Nat.zero_le _)
  simp only [Builtin.copy_, List.getElem?_toArray, List.getElem?_cons_zero, List.getElem?_cons_succ, Sem.run_bind, run_underlying ht, Result.andThen_ok, Sem.run_pure, h1, szOf_run hs]
  rw [show Nat.min p.2 n = min p.2 n from rfl, h0, hfirst]
  cases base <;> simp [storeCells, goInt]

theorem clr_ok {t e : TypeId} {sz : Nat} {vx : Value} {b off n : Nat} {cs z : List CV} {ty : TypeId} (hS : Sim fid N w0 X cw w) (ht : P.underlying t = some (.slice e)) (hz : zeroOf P e = some z)
    (hx : VR fid X w (.ref b off n sz) vx) (hn : n ≠ 0) (hg : cw.get b = some (.cells cs)) (hle : off + n * sz ≤ cs.length) (hzl : z.length = sz) :
    OpOk fid N w0 X P (do pure (.value (← Builtin.clear_ #[t] ty #[vx]))) w (.tup []) (cw.set b (.cells (splice cs off (repl n z)))) := by
  obtain ⟨i, zv, hi, hzv, hsz, hzl', hzr, hrun, hso⟩ := zeroOf_spec (fid := fid) (X := X) (w := w) hz
  have hzz := zeros_cells hzr n
  have hzs : zv.cells.size = z.length := hzr.1.symm
  obtain ⟨m, w', hm, hst, s, ex⟩ := store_sim (P := P) hS hg (off := off) (ds := repl n z) (vs := (Builtin.zeroCells zv.cells n).toList) (by rw [repl_length, hzl]; exact hle)
    (by rw [Array.length_toList, zeroCells_size, repl_length, hzs]) fun i c hc => by
      have := hzz.2 i c hc
      rw [Array.getD_eq_getD_getElem?] at this
      rw [Array.getElem?_toList, show Builtin.zeroCells zv.cells n = (Array.range (n * z.length)).map (zv.cells[· % zv.cells.size]!) by unfold Builtin.zeroCells; rw [hzs]]
      exact this
  cases hx with
  | @ref _ _ _ _ cap ad k1 k2 k3 =>
    obtain ⟨rfl, _⟩ := k3 m hm
    refine OpOk.val (v := .tuple #[]) (w' := w') ?_ s ex .tup0
    cases n with
    | zero => exact absurd rfl hn
    | succ n =>
      simp only [Builtin.clear_, List.getElem?_toArray, List.getElem?_cons_zero, Sem.run_bind, run_underlying ht, Result.andThen_ok, hrun, hst, Sem.run_pure]

theorem clr_none {t e : TypeId} {vx : Value} {ty : TypeId} {base : Option Addr} {cap : Nat} (hS : Sim fid N w0 X cw w) (ht : P.underlying t = some (.slice e)) (hx : vx = .slice base 0 cap) :
    OpOk fid N w0 X P (do pure (.value (← Builtin.clear_ #[t] ty #[vx]))) w (.tup []) cw := by
  subst hx
  refine OpOk.pur (v := .tuple #[]) hS ?_ .tup0
  cases base <;> simp [Builtin.clear_, run_underlying ht]

theorem app_ok {t u e ty : TypeId} {i : TypeInfo} {d : TypeDesc} {x y : CV} {vx vy : Value} {p : List CV × Nat} {c : CV} {cw' : CW} (hS : Sim fid N w0 X cw w) (ht : P.underlying t = some (.slice e)) (hu : P.underlying u = some d)
    (hd : (∃ e', d = .slice e') ∨ d = .string) (hi : P.info? e = some i) (hno : ¬(i.size = 0 ∨ i.bytes > 1024)) (hz : ∃ z, i.zero = some z ∧ z.cells.size = i.size)
    (hx : VR fid X w x vx) (hy : VR fid X w y vy) (hp : seqOf cw i.size y = some p) (h : appV cw i.size x p.1 p.2 = some (c, cw')) :
    OpOk fid N w0 X P (do pure (.value (← Builtin.append_ #[t, u] ty #[vx, vy]))) w c cw' := by
  obtain ⟨h1, h2, ys, h3, h4, _, h5⟩ := seq_all (P := P) hS hy hp
  obtain ⟨z, hz1, hz2⟩ := hz
  have hsrc : Src P i.size u vy p.2 ys w := by
    refine ⟨?_, h1, h4 w rfl, h4 w.drew rfl, by omega, fun v hv => ?_⟩
    · rcases hd with ⟨e', rfl⟩ | rfl
      · exact .inl ⟨e', hu⟩
      · exact .inr hu
    · obtain ⟨j, hj, rfl⟩ := List.getElem_of_mem hv
      obtain ⟨q1, q2⟩ := h5 j _ (List.getElem?_eq_getElem (by omega))
      rw [List.getElem?_eq_getElem hj] at q2
      exact one_vr q2 q1
  have hF := appF_src (P := P) (w := w) (d := d) (ty := ty) ht hi rfl (fun h => hno (.inr h)) hz1 hz2 hsrc
  obtain ⟨v, w', X', g1, g2, g3, g4⟩ := app_core hF hS hx h3 h2 h5 (fun h => hno (.inl h)) h
  exact OpOk.val g1 g2 g3 g4

theorem appZ_ok {t u e ty : TypeId} {i : TypeInfo} {kn : IntKind} {x nv : CV} {vx vn : Value} {n : Int} {z : List CV} {c : CV} {cw' : CW} (hS : Sim fid N w0 X cw w) (ht : P.underlying t = some (.slice e)) (hu : P.underlying u = some (.int kn))
    (hi : P.info? e = some i) (hno : ¬(i.size = 0 ∨ i.bytes > 1024)) (hz : zeroOf P e = some z) (hx : VR fid X w x vx) (hn : VR fid X w nv vn) (hin : intV nv = some n) (h0 : 0 ≤ n) (hl : n ≤ lim)
    (h : appV cw i.size x (repl n.toNat z) n.toNat = some (c, cw')) :
    OpOk fid N w0 X P (do pure (.value (← Builtin.append_ #[t, u] ty #[vx, vn]))) w c cw' := by
  obtain ⟨i', zv, hi', hzv, hsz, hzl, hzr, hrun, hso⟩ := zeroOf_spec (fid := fid) (X := X) (w := w) hz
  rw [hi] at hi'; cases hi'
  obtain ⟨k, rfl⟩ := intV_inv hin hn
  obtain ⟨m, rfl⟩ := Int.eq_ofNat_of_zero_le h0
  rw [Int.toNat_natCast] at h
  have hzs : zv.cells.size = z.length := hzr.1.symm
  have hzz := zeros_cells hzr m
  have hF := appF_zeros (P := P) (w := w) (ty := ty) (kq := k) (m := m) ht hu hi rfl (fun h => hno (.inr h)) (fun h => hno (.inl h)) hzv hsz (by omega)
  obtain ⟨v, w', X', g1, g2, g3, g4⟩ := app_core hF hS hx (by rw [Array.length_toList, zeroCells_size, repl_length, hzs]) (by rw [repl_length, hzl]) (fun i c hc => by
      have := hzz.2 i c hc
      rw [Array.getD_eq_getD_getElem?] at this
      rw [Array.getElem?_toList, show Builtin.zeroCells zv.cells m = (Array.range (m * z.length)).map (zv.cells[· % zv.cells.size]!) by unfold Builtin.zeroCells; rw [hzs]]
      exact this) (fun h => hno (.inl h)) h
  exact OpOk.val g1 g2 g3 g4

theorem mk_ok {t e : TypeId} {i : TypeInfo} {z : List CV} {lv cv : CV} {vl vc : Value} {l c : Int} (hS : Sim fid N w0 X cw w) (ht : P.underlying t = some (.slice e)) (hi : P.info? e = some i)
    (hno : ¬(i.size = 0 ∨ i.bytes > 1024)) (hz : zeroOf P e = some z) (hl : VR fid X w lv vl) (hc : VR fid X w cv vc) (hil : intV lv = some l) (hic : intV cv = some c) (b1 : 0 ≤ l) (b2 : l ≤ c) (b3 : c ≤ lim) :
    OpOk fid N w0 X P (do pure (.value (← Instr.makeSlice t vl vc))) w (.ref cw.next 0 l.toNat i.size) (cw.push (.cells (repl l.toNat z))) := by
  obtain ⟨i', zv, hi', hzv, hsz, hzl, hzr, hrun, hso⟩ := zeroOf_spec (fid := fid) (X := X) (w := w) hz
  rw [hi] at hi'; cases hi'
  obtain ⟨kl, rfl⟩ := intV_inv hil hl
  obtain ⟨kc, rfl⟩ := intV_inv hic hc
  obtain ⟨m, rfl⟩ := Int.eq_ofNat_of_zero_le b1
  obtain ⟨n, rfl⟩ := Int.eq_ofNat_of_zero_le (Int.le_trans b1 b2)
  unfold lim at b3
  have hzz := zeros_cells hzr n
  have hzs : zv.cells.size = z.length := hzr.1.symm
  have hmn : m ≤ n := by omega
  obtain ⟨X', s, ex, hnx, hM⟩ := new_mut (T := e) (fr := (0, 0)) hS (cs := repl m z) (rcs := (Array.range (n * z.length)).map (zv.cells[· % zv.cells.size]!))
    (by rw [repl_length]; simp; exact Nat.mul_le_mul_right _ hmn) (.inl (Nat.le_refl _)) fun i c hc => by
      refine hzz.2 i c ?_
      rw [repl_at] at hc ⊢
      have hle : m * z.length ≤ n * z.length := Nat.mul_le_mul_right _ hmn
      split at hc
      · rw [if_pos (by omega)]; exact hc
      · cases hc
  refine OpOk.val (v := .slice (some ⟨w.heap.size, 0, none⟩) m n) (w' := w.alloc (.cells ((Array.range (n * z.length)).map (zv.cells[· % zv.cells.size]!)) e)) ?_ s ex (.ref (by omega) hmn fun mm hmm => ?_)
  · have hwl : IntKind.i64.wrap (m : Int) = m := by rw [IntKind.wrap_i64]; omega
    have hwc : IntKind.i64.wrap (n : Int) = n := by rw [IntKind.wrap_i64]; omega
    have hby : n * i.bytes ≤ 2 ^ 36 * 1024 := Nat.mul_le_mul (by omega) (by omega)
    have hby' : ((i.bytes : Int) * (n : Int)) ≤ 2 ^ 48 := by
      rw [← Int.natCast_mul, Nat.mul_comm]
      omega
    have h1 : ¬ ((n : Int) < 0) := by omega
    have h2 : ¬ ((i.bytes : Int) * (n : Int) > 2 ^ 48) := by omega
    have h3 : ¬ ((m : Int) < 0) := by omega
    have h4 : ¬ ((m : Int) > (n : Int)) := by omega
    have hinfo : (typeInfo e).run P w = .ok i w := by simp [typeInfo, hi]
    simp only [Instr.makeSlice, Sem.run_bind, run_underlying ht, Result.andThen_ok, asInt, asIntOf, Sem.run_pure, hinfo, hwl, hwc]
    simp only [h1, h2, h3, h4, decide_false, Bool.or_self, Bool.false_eq_true, if_false, Sem.run_bind, run_askRoom, Result.andThen_ok, szOf_run hso, Sem.run_pure, Int.toNat_natCast]
    by_cases h0 : n * i.size = 0
    · simp only [h0, if_true, Sem.run_pure, Result.andThen_ok, newRow, Sem.run_bind, run_newObj]
      rw [hzl, h0]
      have em : ∀ f : Nat → Value, (Array.range 0).map f = #[] := fun f => by rw [show Array.range 0 = #[] from rfl, Array.map_empty]
      rw [em, em]
      rfl
    · simp only [h0, if_false, Sem.run_bind, hrun, Sem.run_pure, Result.andThen_ok, newRow, run_newObj]
      rw [hzl]
      rfl
  · rw [hS.nx.symm] at hM
    rw [← hS.nx] at hmm
    rw [hM] at hmm
    cases hmm
    exact ⟨rfl, by simp [hzl]⟩

end Go.Cs
