/- Every operation that is no call. -/
import Derived.Test.YtopnfbffcggnmaaDoorCsMap
namespace Go.Cs
open Go.RowKit (Below)
variable {P : Program} {fid : FuncId → Option Nat} {N : Nat} {w0 : World} {X : Cx} {cw : CW} {w : World} {ρ : Env} {a : Act}

theorem isKeyT_some {t : TypeId} {f : Bool → Option ROp} {ro : ROp} (h : ((isKeyT P t).bind f) = some ro) : ∃ ks, isKeyT P t = some ks ∧ f ks = some ro := by
  simpa only [Option.bind_eq_some_iff] using h

theorem ts_one {ts : Array TypeId} {t : TypeId} (h : ts[0]? = some t) {α : Type} (f : Option TypeId → α) : f ts[0]? = f (some t) := by rw [h]

theorem zeroOf_zero {e : TypeId} {z : List CV} {i : TypeInfo} (h : zeroOf P e = some z) (hi : P.info? e = some i) : ∃ zv, i.zero = some zv ∧ zv.cells.size = i.size := by
  unfold zeroOf at h
  rw [hi] at h
  simp only at h
  split at h
  · rename_i zv hz
    split at h
    · rename_i hs; exact ⟨zv, hz, hs⟩
    · cases h
  · cases h

theorem len_ok {ts : Array TypeId} {ty t : TypeId} {v : Value} {n : Int} (hS : Sim fid N w0 X cw w) (h : (Builtin.len_ ts ty #[v]).run P w = .ok (.int .i64 n) w) :
    OpOk fid N w0 X P (do pure (.value (← Builtin.len_ ts ty #[v]))) w (.int .i64 n) cw := OpOk.pur hS h (.int _ _)

theorem op_len {x : Operand} {ts : Array TypeId} {ty : TypeId} {ro : ROp} {c : CV} {cw' : CW} (hr : resBuiltin P fid .len ts [x] = some ro)
    (hE : EnvR fid X w ρ a) (hS : Sim fid N w0 X cw w) (hs : stepOp ro (ev ρ) cw = some (c, cw')) : OpOk fid N w0 X P (do pure (.value (← Builtin.len_ ts ty #[a.eval x]))) w c cw' := by
  simp only [resBuiltin, Option.bind_eq_some_iff] at hr
  obtain ⟨t, ht, y, hy, hr⟩ := hr
  split at hr
  · rename_i hu
    cases hr
    simp only [stepOp] at hs
    split at hs <;> cases hs
    rename_i l he
    rw [(rx_vr hy he hE).str_inv]
    have hsz : (ByteArray.mk l.toArray).size = l.length := by simp [ByteArray.size]
    exact OpOk.pur (v := .int .i64 l.length) hS (by simp only [Builtin.len_, ht, List.getElem?_toArray, List.getElem?_cons_zero, Sem.run_bind, run_underlying hu, Result.andThen_ok, hsz]; rfl) (.int _ _)
  · rename_i e hu
    cases hr
    simp only [stepOp] at hs
    have key : ∀ (n : Nat) (base : Option Addr) (cap : Nat), (Builtin.len_ ts ty #[.slice base n cap]).run P w = .ok (.int .i64 n) w := by
      intro n base cap
      simp [Builtin.len_, ht, run_underlying hu, goInt]
    split at hs <;> cases hs
    · rename_i he
      have hv := rx_vr hy he hE
      generalize a.eval x = v at hv ⊢
      cases hv
      exact OpOk.pur (v := .int .i64 0) hS (key 0 none 0) (.int _ _)
    · rename_i n _ he
      have hv := rx_vr hy he hE
      generalize a.eval x = v at hv ⊢
      cases hv
      exact OpOk.pur hS (key n _ _) (.int _ _)
    · rename_i n _ he
      have hv := rx_vr hy he hE
      generalize a.eval x = v at hv ⊢
      cases hv
      exact OpOk.pur hS (key n _ _) (.int _ _)
  · rename_i n e hu
    cases hr
    simp only [stepOp] at hs
    cases hs
    exact OpOk.pur (v := .int .i64 n) hS (by simp [Builtin.len_, ht, run_underlying hu, goInt]) (.int _ _)
  · rename_i p hu
    split at hr
    · rename_i n e hu2
      cases hr
      simp only [stepOp] at hs
      cases hs
      exact OpOk.pur (v := .int .i64 n) hS (by simp [Builtin.len_, ht, run_underlying hu, run_underlying hu2, goInt]) (.int _ _)
    · cases hr
  · rename_i kt e hu
    cases hr
    have ht' : ts[0]? = some t := ht
    simp only [stepOp] at hs
    have e1 : ∀ v, (Builtin.len_ ts ty #[v]) = Builtin.len_ #[t] ty #[v] := fun v => by simp [Builtin.len_, ht']
    rw [e1]
    split at hs
    · rename_i he
      cases hs
      have hv := rx_vr hy he hE
      generalize a.eval x = v at hv ⊢
      cases hv
      exact OpOk.pur (v := .int .i64 0) hS (by simp [Builtin.len_, run_underlying hu, goInt]) (.int _ _)
    · rename_i b he
      split at hs
      · rename_i es clock hg
        cases hs
        exact lenM_ok hS hu (rx_vr hy he hE) hg
      · cases hs
    · cases hs
  · cases hr

theorem op_append {x y : Operand} {ts : Array TypeId} {ty : TypeId} {ro : ROp} {c : CV} {cw' : CW} (hr : resBuiltin P fid .append ts [x, y] = some ro)
    (hE : EnvR fid X w ρ a) (hS : Sim fid N w0 X cw w) (hs : stepOp ro (ev ρ) cw = some (c, cw')) : OpOk fid N w0 X P (do pure (.value (← Builtin.append_ ts ty #[a.eval x, a.eval y]))) w c cw' := by
  simp only [resBuiltin, Option.bind_eq_some_iff] at hr
  obtain ⟨t, ht, u, hu, x', hx, y', hy, hr⟩ := hr
  have e1 : ∀ v v', (Builtin.append_ ts ty #[v, v']) = Builtin.append_ #[t, u] ty #[v, v'] := fun v v' => by simp [Builtin.append_, ht, hu]
  rw [e1]
  split at hr
  · rename_i e d htu hud
    simp only [Option.bind_eq_some_iff] at hr
    obtain ⟨i, hi, hr⟩ := hr
    split at hr
    · cases hr
    · rename_i hno
      simp only [Option.bind_eq_some_iff] at hr
      obtain ⟨z, hzz, hr⟩ := hr
      have hz := zeroOf_zero hzz hi
      split at hr
      · rename_i e'
        cases hr
        simp only [stepOp, Option.bind_eq_some_iff] at hs
        obtain ⟨xv, hxv, yv, hyv, p, hp, hs⟩ := hs
        exact app_ok hS htu hud (.inl ⟨_, rfl⟩) hi hno hz (rx_vr hx hxv hE) (rx_vr hy hyv hE) hp hs
      · split at hr
        · rename_i h1
          cases hr
          simp only [stepOp, Option.bind_eq_some_iff] at hs
          obtain ⟨xv, hxv, yv, hyv, p, hp, hs⟩ := hs
          rw [← h1] at hp hs
          exact app_ok hS htu hud (.inr rfl) hi hno hz (rx_vr hx hxv hE) (rx_vr hy hyv hE) hp hs
        · cases hr
      · cases hr
        simp only [stepOp, Option.bind_eq_some_iff] at hs
        obtain ⟨xv, hxv, nv, hnv, n, hn, hs⟩ := hs
        split at hs
        · rename_i hb
          exact appZ_ok hS htu hud hi hno hzz (rx_vr hx hxv hE) (rx_vr hy hnv hE) hn hb.1 hb.2 hs
        · cases hs
      · cases hr
  · cases hr

theorem op_copy {x y : Operand} {ts : Array TypeId} {ty : TypeId} {ro : ROp} {c : CV} {cw' : CW} (hr : resBuiltin P fid .copy ts [x, y] = some ro)
    (hE : EnvR fid X w ρ a) (hS : Sim fid N w0 X cw w) (hs : stepOp ro (ev ρ) cw = some (c, cw')) : OpOk fid N w0 X P (do pure (.value (← Builtin.copy_ ts ty #[a.eval x, a.eval y]))) w c cw' := by
  simp only [resBuiltin, Option.bind_eq_some_iff] at hr
  obtain ⟨t, ht, x', hx, y', hy, hr⟩ := hr
  have e1 : ∀ v v', (Builtin.copy_ ts ty #[v, v']) = Builtin.copy_ #[t, t] ty #[v, v'] := fun v v' => by simp [Builtin.copy_, ht]
  rw [e1]
  split at hr
  · rename_i e hu
    simp only [Option.bind_eq_some_iff] at hr
    obtain ⟨n, hn, hr⟩ := hr
    split at hr
    · cases hr
    · cases hr
      simp only [stepOp, Option.bind_eq_some_iff] at hs
      obtain ⟨xv, hxv, yv, hyv, p, hp, hs⟩ := hs
      have hvx := rx_vr hx hxv hE
      have hvy := rx_vr hy hyv hE
      split at hs
      · cases hs
        generalize a.eval x = v at hvx ⊢
        cases hvx
        exact copy_none hS hu hn rfl hvy hp (by simp)
      · split at hs
        · rename_i h0
          cases hs
          obtain ⟨r, o, cap, hv, _⟩ := hvx.vec_inv
          exact copy_none hS hu hn hv hvy hp h0
        · cases hs
      · split at hs
        · cases hs
        · rename_i hsz
          have hsz := Classical.not_not.1 hsz
          subst hsz
          split at hs
          · rename_i cs hg
            split at hs
            · rename_i hle
              cases hs
              exact copy_ok hS hu hn hvx hvy hp hg hle
            · cases hs
          · cases hs
      · cases hs
  · cases hr

theorem op_clear {x : Operand} {ts : Array TypeId} {ty : TypeId} {ro : ROp} {c : CV} {cw' : CW} (hr : resBuiltin P fid .clear ts [x] = some ro)
    (hE : EnvR fid X w ρ a) (hS : Sim fid N w0 X cw w) (hs : stepOp ro (ev ρ) cw = some (c, cw')) : OpOk fid N w0 X P (do pure (.value (← Builtin.clear_ ts ty #[a.eval x]))) w c cw' := by
  simp only [resBuiltin, Option.bind_eq_some_iff] at hr
  obtain ⟨t, ht, x', hx, hr⟩ := hr
  have e1 : ∀ v, (Builtin.clear_ ts ty #[v]) = Builtin.clear_ #[t] ty #[v] := fun v => by simp [Builtin.clear_, ht]
  rw [e1]
  split at hr
  · rename_i e hu
    simp only [Option.bind_eq_some_iff] at hr
    obtain ⟨n, hn, z, hz, hr⟩ := hr
    split at hr
    · cases hr
    · cases hr
      simp only [stepOp, Option.bind_eq_some_iff] at hs
      obtain ⟨xv, hxv, hs⟩ := hs
      have hvx := rx_vr hx hxv hE
      split at hs
      · cases hs
        generalize a.eval x = v at hvx ⊢
        cases hvx
        exact clr_none hS hu rfl
      · split at hs
        · rename_i h0
          cases hs
          subst h0
          obtain ⟨r, o, cap, hv, _⟩ := hvx.vec_inv
          exact clr_none hS hu hv
        · cases hs
      · split at hs
        · cases hs
        · rename_i hsz
          have hsz := Classical.not_not.1 hsz
          subst hsz
          split at hs
          · rename_i h0
            cases hs
            subst h0
            generalize a.eval x = v at hvx ⊢
            cases hvx
            exact clr_none hS hu rfl
          · rename_i h0
            split at hs
            · rename_i cs hg
              split at hs
              · rename_i hle
                cases hs
                exact clr_ok hS hu hz hvx h0 hg hle.1 hle.2
              · cases hs
            · cases hs
      · cases hs
  · rename_i kt e hu
    cases hr
    simp only [stepOp] at hs
    split at hs
    · rename_i he
      cases hs
      have hv := rx_vr hx he hE
      generalize a.eval x = v at hv ⊢
      cases hv
      exact OpOk.pur (v := .tuple #[]) hS (by simp [Builtin.clear_, run_underlying hu]) .tup0
    · rename_i b he
      split at hs
      · rename_i es clock hg
        cases hs
        exact mclr_ok hS hu (rx_vr hx he hE) hg
      · cases hs
    · cases hs
  · cases hr

theorem op_delete {x k : Operand} {ts : Array TypeId} {ty : TypeId} {ro : ROp} {c : CV} {cw' : CW} (hr : resBuiltin P fid .delete ts [x, k] = some ro)
    (hE : EnvR fid X w ρ a) (hS : Sim fid N w0 X cw w) (hs : stepOp ro (ev ρ) cw = some (c, cw')) : OpOk fid N w0 X P (do pure (.value (← Builtin.delete_ ts ty #[a.eval x, a.eval k]))) w c cw' := by
  simp only [resBuiltin, Option.bind_eq_some_iff] at hr
  obtain ⟨t, ht, x', hx, k', hk, hr⟩ := hr
  have e1 : ∀ v v', (Builtin.delete_ ts ty #[v, v']) = Builtin.delete_ #[t, t] ty #[v, v'] := fun v v' => by simp [Builtin.delete_, ht]
  rw [e1]
  split at hr
  · rename_i kt e hu
    obtain ⟨ks, hks, hr⟩ := isKeyT_some (f := fun ks => some (ROp.mdel ks x' k')) hr
    cases hr
    simp only [stepOp, Option.bind_eq_some_iff] at hs
    obtain ⟨m, hm, kv, hkv, hs⟩ := hs
    split at hs
    · rename_i hik
      have hvx := rx_vr hx hm hE
      have hvk := rx_vr hk hkv hE
      split at hs
      · cases hs
        generalize a.eval x = v at hvx ⊢
        cases hvx
        exact mdel_nil hS hu hks hvk hik
      · split at hs
        · rename_i es clock hg
          simp only [Option.bind_eq_some_iff] at hs
          obtain ⟨r, hf, hs⟩ := hs
          have := mdel_ok (P := P) (u := t) (ty := ty) hS hu hks hvx hvk hik hg hf
          cases r with
          | none => cases hs; exact this
          | some q => obtain ⟨i, v', b'⟩ := q; cases hs; exact this
        · cases hs
      · cases hs
    · cases hs
  · cases hr

theorem op_minmax {mxx : Bool} {x y : Operand} {ts : Array TypeId} {ty : TypeId} {ro : ROp} {c : CV} {cw' : CW} (hr : resBuiltin P fid (if mxx then .max else .min) ts [x, y] = some ro)
    (hE : EnvR fid X w ρ a) (hS : Sim fid N w0 X cw w) (hs : stepOp ro (ev ρ) cw = some (c, cw')) :
    OpOk fid N w0 X P (do pure (.value (← if mxx then Builtin.max_ ts ty #[a.eval x, a.eval y] else Builtin.min_ ts ty #[a.eval x, a.eval y]))) w c cw' := by
  cases mxx
  all_goals
    simp only [resBuiltin, Option.bind_eq_some_iff, Bool.false_eq_true, if_false, if_true] at hr ⊢
    obtain ⟨x', hx, y', hy, hr⟩ := hr
    cases hr
    simp only [stepOp] at hs
    obtain ⟨h1, rfl⟩ := pu_some hs
    simp only [Option.bind_eq_some_iff] at h1
    obtain ⟨xv, hxv, yv, hyv, h1⟩ := h1
    split at h1 <;> cases h1
    rw [(rx_vr hx hxv hE).int_inv, (rx_vr hy hyv hE).int_inv]
    refine OpOk.pur hS ?_ (.int _ _)
    simp [Builtin.max_, Builtin.min_, Builtin.max2, Builtin.min2]

theorem op_builtin {o : Oper} {b : Builtin} {args : Array Operand} {ts : Array TypeId} {ro : ROp} {c : CV} {cw' : CW} (hop : o.op = .call { callee := .builtin b, args := args, argTypes := ts })
    (hr : resBuiltin P fid b ts args.toList = some ro) (hE : EnvR fid X w ρ a) (hS : Sim fid N w0 X cw w) (hs : stepOp ro (ev ρ) cw = some (c, cw')) : OpOk fid N w0 X P (execOp a.eval o) w c cw' := by
  have hex : execOp a.eval o = (do let d ← resolve a.eval { callee := .builtin b, args := args, argTypes := ts } o.type; invoke d.target d.args : Sem Next) := by
    unfold execOp; rw [hop]
  rw [hex]
  simp only [resolve, pure_bind, invoke]
  have a1 : ∀ {x : Operand}, args.toList = [x] → args.map a.eval = #[a.eval x] := by
    intro x h
    have : args = #[x] := by cases args; simp at h; subst h; rfl
    subst this; simp
  have a2 : ∀ {x y : Operand}, args.toList = [x, y] → args.map a.eval = #[a.eval x, a.eval y] := by
    intro x y h
    have : args = #[x, y] := by cases args; simp at h; subst h; rfl
    subst this; simp
  have hr0 := hr
  unfold resBuiltin at hr
  split at hr
  · rename_i x hx
    rw [a1 hx]; rw [hx] at hr0
    exact op_len hr0 hE hS hs
  · rename_i x y hx
    rw [a2 hx]; rw [hx] at hr0
    exact op_append hr0 hE hS hs
  · rename_i x y hx
    rw [a2 hx]; rw [hx] at hr0
    exact op_copy hr0 hE hS hs
  · rename_i x hx
    rw [a1 hx]; rw [hx] at hr0
    exact op_clear hr0 hE hS hs
  · rename_i x y hx
    rw [a2 hx]; rw [hx] at hr0
    exact op_delete hr0 hE hS hs
  · rename_i x y hx
    rw [a2 hx]; rw [hx] at hr0
    exact op_minmax (mxx := true) hr0 hE hS hs
  · rename_i x y hx
    rw [a2 hx]; rw [hx] at hr0
    exact op_minmax (mxx := false) hr0 hE hS hs
  · cases hr

end Go.Cs
