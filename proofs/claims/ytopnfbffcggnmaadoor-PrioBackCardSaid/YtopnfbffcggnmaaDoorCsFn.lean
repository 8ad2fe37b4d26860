/- From the canonical machine's weakest precondition to Go's: functions. -/
import Derived.Test.YtopnfbffcggnmaaDoorCsWp
namespace Go.Cs
open Go.RowKit (Below)
variable {P : Program} {fid : FuncId → Option Nat} {N : Nat} {w0 : World} {X : Cx} {cw : CW} {w : World} {ρ : Env} {a : Act} {K : Nat → Ct} {pure : Nat → Bool} {G : Nat → World → Prop}

def RF.strip (f : RF) : RF := { f with body := f.body.strip }

theorem numb_get : ∀ {args : List CV} {k t : Nat} {c : CV}, (numb k args).get t = some c → k ≤ t ∧ args[t - k]? = some c
  | [], k, t, c, h => by cases h
  | x :: args, k, t, c, h => by
    simp only [numb, Env.get] at h
    by_cases hk : k = t
    · subst hk
      simp only [if_true, Option.some.injEq] at h
      subst h
      simp
    · rw [if_neg hk] at h
      obtain ⟨h1, h2⟩ := numb_get h
      refine ⟨by omega, ?_⟩
      have : t - k = (t - (k + 1)) + 1 := by omega
      rw [this, List.getElem?_cons_succ]
      exact h2

/-- Without the blocks from 'base' on. -/
def Cx.drop (X : Cx) (base : Nat) : Cx := { M := fun b => if b < base then X.M b else none, I := fun r i => X.I r i ∨ ∃ b m, base ≤ b ∧ X.M b = some m ∧ m.1 = r, nx := base }

theorem vr_drop {X0 : Cx} {w1 : World} {c : CV} {v : Value} (h : VR fid X w c v) : ∀ {v0 : Value}, VR fid X0 w1 c v0 → VR fid (X.drop X0.nx) w c v := by
  induction h with
  | int k n => intro v0 _; exact .int k n
  | bool b => intro v0 _; exact .bool b
  | str s => intro v0 _; exact .str s
  | nilp => intro v0 _; exact .nilp
  | nils => intro v0 _; exact .nils
  | nilm => intro v0 _; exact .nilm
  | nilf => intro v0 _; exact .nilf
  | nili => intro v0 _; exact .nili
  | agg hl h1 _ ih =>
    intro v0 h0
    cases h0 with
    | agg k1 k2 k3 => exact .agg hl h1 fun i c hc => ih i c hc (k3 i c hc)
  | tup hl _ ih =>
    intro v0 h0
    cases h0 with
    | tup k1 k3 => exact .tup hl fun i c hc => ih i c hc (k3 i c hc)
  | ptr hb hm =>
    intro v0 h0
    cases h0 with
    | ptr k1 k2 => exact .ptr k1 fun m h => hm m (by simpa [Cx.drop, k1] using h)
  | row h1 _ ih =>
    intro v0 h0
    cases h0 with
    | row k1 k2 => exact .row (fun i c hc => ⟨(h1 i c hc).1, .inl (h1 i c hc).2.1, (h1 i c hc).2.2⟩) fun i c hc => ih i c hc (k2 i c hc)
  | vec hn hcl h1 _ ih =>
    intro v0 h0
    cases h0 with
    | vec _ _ k1 k2 => exact .vec hn hcl (fun i c hc => ⟨(h1 i c hc).1, .inl (h1 i c hc).2.1, (h1 i c hc).2.2⟩) fun i c hc => ih i c hc (k2 i c hc)
  | ref hb hn hm =>
    intro v0 h0
    cases h0 with
    | ref k1 _ _ => exact .ref k1 hn fun m h => hm m (by simpa [Cx.drop, k1] using h)
  | map hb hm =>
    intro v0 h0
    cases h0 with
    | map k1 _ => exact .map k1 fun m h => hm m (by simpa [Cx.drop, k1] using h)
  | fn hf h1 h2 _ _ ih1 ih2 =>
    intro v0 h0
    cases h0 with
    | fn _ _ _ k1 k2 => exact .fn hf h1 h2 (fun i c hc => ih1 i c hc (k1 i c hc)) (fun i c hc => ih2 i c hc (k2 i c hc))
  | ifc _ ih =>
    intro v0 h0
    cases h0 with
    | ifc k => exact .ifc (ih k)


theorem drop_sim {X0 : Cx} {cw0 : CW} {w1 : World} (h0 : Sim fid N w0 X0 cw0 w1) (h : Sim fid N w0 X cw w) (e : Ext X0 w1 X w) (hk : ∀ b, b < cw0.next → cw.get b = cw0.get b) :
    Sim fid N w0 (X.drop X0.nx) cw0 w ∧ Ext X0 w1 (X.drop X0.nx) w := by
  refine ⟨⟨h0.nx, ?_, ?_, ?_, ?_, fun r o hr => .inl (h.old r o hr), ?_, h.below, h.room⟩, Nat.le_refl _, ?_, fun r o hi => .inl (e.i r o hi), e.c⟩
  · intro b m hm
    simp only [Cx.drop] at hm
    split at hm
    · rename_i hb
      obtain ⟨o, ho⟩ := h.dom b m hm
      exact ⟨o, by rw [← hk b (by rw [← h0.nx]; exact hb)]; exact ho⟩
    · cases hm
  · intro b o ho
    obtain ⟨hb, m0, hm0, hor0⟩ := h0.blk b o ho
    have ho' : cw.get b = some o := by rw [hk b (by rw [← h0.nx]; exact hb)]; exact ho
    obtain ⟨_, m, hm, hor⟩ := h.blk b o ho'
    refine ⟨hb, m, by simp [Cx.drop, hb, hm], ?_⟩
    cases o with
    | cells cs =>
      obtain ⟨rcs, T, fr, k1, k2, k3, k4, k5⟩ := hor
      obtain ⟨rcs0, _, _, _, _, _, _, k0⟩ := hor0
      exact ⟨rcs, T, fr, k1, k2, k3, k4, fun i c hc => ⟨(k5 i c hc).1, vr_drop (k5 i c hc).2 (k0 i c hc).2⟩⟩
    | map es clock =>
      obtain ⟨res, k1, k2, k3⟩ := hor
      obtain ⟨res0, _, _, k0⟩ := hor0
      refine ⟨res, k1, k2, fun i e he => ?_⟩
      obtain ⟨r, r1, r2, r3, r4⟩ := k3 i e he
      obtain ⟨r', _, _, q3, q4⟩ := k0 i e he
      exact ⟨r, r1, r2, vr_drop r3 q3, vr_drop r4 q4⟩
  · intro b b' m m' hm hm'
    simp only [Cx.drop] at hm hm'
    split at hm <;> split at hm'
    · exact h.inj b b' m m' hm hm'
    all_goals first | cases hm | cases hm'
  · intro b m hm
    simp only [Cx.drop] at hm
    split at hm
    · rename_i hb
      obtain ⟨s1, s2⟩ := h.sep b m hm
      refine ⟨s1, fun o hi => ?_⟩
      rcases hi with hi | ⟨b', m', hb', hm', he⟩
      · exact s2 o hi
      · have := h.inj _ _ _ _ hm' hm he
        omega
    · cases hm
  · intro r o hi
    rcases hi with hi | ⟨b', m', hb', hm', rfl⟩
    · exact h.lt r o hi
    · obtain ⟨oo, ho⟩ := h.dom b' m' hm'
      obtain ⟨_, m2, hm2, hor⟩ := h.blk b' oo ho
      rw [hm'] at hm2; cases hm2
      exact hor.at
  · intro b m hb hm
    simp only [Cx.drop, hb, if_true] at hm
    exact e.m b m hb hm

theorem run_mapM_list {α : Type} {f : α → Sem Value} {Q : CV → Value → Prop} : ∀ {xs : List α} {cs : List CV}, xs.length = cs.length →
    (∀ (i : Nat) (x : α) (c : CV), xs[i]? = some x → cs[i]? = some c → ∃ v, (f x).run P w = .ok v w ∧ Q c v) →
    ∃ vs : List Value, (xs.mapM f).run P w = .ok vs w ∧ vs.length = cs.length ∧ ∀ (i : Nat) (c : CV), cs[i]? = some c → ∃ v, vs[i]? = some v ∧ Q c v
  | [], cs, hl, h => by
    have : cs = [] := List.length_eq_zero_iff.1 (by simpa using hl.symm)
    subst this
    exact ⟨[], by simp, rfl, by simp⟩
  | x :: xs, [], hl, h => by simp at hl
  | x :: xs, c :: cs, hl, h => by
    obtain ⟨v, h1, h2⟩ := h 0 x c rfl rfl
    obtain ⟨vs, k1, k2, k3⟩ := run_mapM_list (f := f) (Q := Q) (xs := xs) (cs := cs) (by simpa using hl) fun i x c hx hc => h (i + 1) x c (by simpa using hx) (by simpa using hc)
    refine ⟨v :: vs, ?_, by simp [k2], fun i c' hc => ?_⟩
    · rw [List.mapM_cons]
      simp [h1, k1]
    · cases i with
      | zero =>
        simp only [List.getElem?_cons_zero, Option.some.injEq] at hc ⊢
        subst hc
        exact ⟨v, rfl, h2⟩
      | succ i => simpa using k3 i c' (by simpa using hc)

theorem resRes_spec : ∀ {rv : List ResultVar} {rs : List RR} {vs : List CV}, resRes P rv = some rs → resAll cw ρ rs = some vs → rv.length = vs.length ∧
    ∀ (i : Nat) (x : ResultVar) (c : CV), rv[i]? = some x → vs[i]? = some c → (∃ t, x = .tmp t ∧ ρ.get t = some c) ∨
      (∃ t ty q b off cs, x = .cell t ty ∧ tyOf P ty = some q ∧ ρ.get t = some (.ptr b off) ∧ cw.get b = some (.cells cs) ∧ ldc q.1 q.2 cs off = some c)
  | [], rs, vs, h, he => by cases h; cases he; simp
  | x :: rv, rs, vs, h, he => by
    have key : ∀ (r : RR) (rs' : List RR), resRes P rv = some rs' → rs = r :: rs' → (∀ c, resOne cw ρ r = some c → (∃ t, x = .tmp t ∧ ρ.get t = some c) ∨
        (∃ t ty q b off cs, x = .cell t ty ∧ tyOf P ty = some q ∧ ρ.get t = some (.ptr b off) ∧ cw.get b = some (.cells cs) ∧ ldc q.1 q.2 cs off = some c)) → (x :: rv).length = vs.length ∧
        ∀ (i : Nat) (x' : ResultVar) (c : CV), (x :: rv)[i]? = some x' → vs[i]? = some c → (∃ t, x' = .tmp t ∧ ρ.get t = some c) ∨
        (∃ t ty q b off cs, x' = .cell t ty ∧ tyOf P ty = some q ∧ ρ.get t = some (.ptr b off) ∧ cw.get b = some (.cells cs) ∧ ldc q.1 q.2 cs off = some c) := by
      rintro r rs' hrs rfl hone
      simp only [resAll, Option.bind_eq_some_iff] at he
      obtain ⟨c, hc, cs, hcs, he⟩ := he
      cases he
      obtain ⟨k1, k2⟩ := resRes_spec hrs hcs
      refine ⟨by simp [k1], fun i x' c' hx hc' => ?_⟩
      cases i with
      | zero =>
        simp only [List.getElem?_cons_zero, Option.some.injEq] at hx hc'
        subst hx; subst hc'
        exact hone _ hc
      | succ i => exact k2 i x' c' (by simpa using hx) (by simpa using hc')
    cases x with
    | tmp t =>
      simp only [resRes, Option.bind_eq_some_iff] at h
      obtain ⟨rs', h1, h⟩ := h
      cases h
      exact key _ _ h1 rfl fun c hc => .inl ⟨t, rfl, hc⟩
    | cell t ty =>
      simp only [resRes, Option.bind_eq_some_iff] at h
      obtain ⟨q, hq, rs', h1, h⟩ := h
      cases h
      refine key _ _ h1 rfl fun c hc => .inr ?_
      simp only [resOne] at hc
      split at hc
      · rename_i b off hb
        split at hc
        · rename_i cs hcs
          exact ⟨t, ty, q, b, off, cs, rfl, hq, hb, hcs, hc⟩
        · cases hc
      · cases hc

theorem results_run {fn : Func} {rs : List RR} {c : CV} {n : Nat} {X0 : Cx} {w1 : World} (hr : resRes P fn.results.toList = some rs) (hS : St fid N w0 X0 w1 n X cw w ρ a) (hv : resV cw ρ rs = some c) :
    ∃ v, (results fn a.tmps).run P w = .ok v w ∧ VR fid X w c v := by
  simp only [resV, Option.bind_eq_some_iff] at hv
  obtain ⟨vs, hvs, hv⟩ := hv
  obtain ⟨k1, k2⟩ := resRes_spec hr hvs
  obtain ⟨us, u1, u2, u3⟩ := run_mapM_list (P := P) (w := w) (f := fun x : ResultVar => match x with
    | .tmp t => (Pure.pure (a.tmps.getD t undef) : Sem Value)
    | .cell b t => do loadVar t (← asAddr (a.tmps.getD b undef))) (Q := fun c v => VR fid X w c v) k1 (fun i x c hx hc => by
      rcases k2 i x c hx hc with ⟨t, rfl, ht⟩ | ⟨t, ty, q, b, off, cs, rfl, hq, ht, hb, hl⟩
      · exact ⟨_, by simp, (hS.env t c ht).2⟩
      · obtain ⟨m, hm, hv, hrow⟩ := (addr_ok hS.sim (hS.env t _ ht).2).1 b off cs rfl hb
        obtain ⟨u, h1, h2⟩ := load_run (P := P) hq hrow hl
        refine ⟨u, ?_, h2⟩
        simp only [hv]
        simpa [asAddr] using h1)
  have hrun : (results fn a.tmps).run P w = .ok (if h : us.toArray.size = 1 then us.toArray[0] else .tuple us.toArray) w := by
    unfold results
    rw [Array.mapM_eq_mapM_toList]
    simp only [Sem.run_bind, Sem.run_pure, Sem.run_map]
    generalize hm : Sem.run P (List.mapM _ fn.results.toList) w = r
    have hm2 : r = .ok us w := hm.symm.trans u1
    rw [hm2]
    rfl
  refine ⟨_, hrun, ?_⟩
  split at hv
  · cases hv
    obtain ⟨v, h1, h2⟩ := u3 0 _ rfl
    have hs : us.toArray.size = 1 := by simpa using u2
    rw [dif_pos hs]
    have : us = [v] := by
      match us, u2, h1 with
      | [x], _, h => simp at h; rw [h]
    subst this
    exact h2
  · rename_i hne
    cases hv
    have hs : ¬ us.toArray.size = 1 := by
      intro h
      have : vs.length = 1 := by rw [← u2]; simpa using h
      obtain ⟨x, hx⟩ := List.length_eq_one_iff.1 this
      exact hne x hx
    rw [dif_neg hs]
    refine .tup (by simpa using u2) fun i c hc => ?_
    obtain ⟨v, h1, h2⟩ := u3 i c hc
    simpa [Array.getD_eq_getD_getElem?, h1] using h2

/-- A function: its contract holds if the canonical machine's weakest precondition says so. -/
theorem sound_of (hm : P.follows .mixedOrders = true) (hK : KSound P fid G K) (hKO : KOk K pure) {f : FuncId} {fn : Func} {ir : RF} {own : List Nat} {C : Ct} (hf : P.funcs[f]? = some fn)
    (hname : fn.name ≠ "runtime.NumGoroutine") (hres : resF P fid own fn = some ir.strip) (hok : ir.body.ok pure = true) (hC : ∀ args cw Q, C args cw Q → wpF K ir args cw Q) : Sound P fid G f C := by
  simp only [resF, Option.bind_eq_some_iff] at hres
  obtain ⟨body, hb, b, hrb, rs, hrs, hres⟩ := hres
  split at hres
  · rename_i hle
    have hres' := Option.some.inj hres
    have e1 : fn.params.size + fn.nfree = ir.np := congrArg RF.np hres'
    have e2 : fn.ntmps = ir.nt := congrArg RF.nt hres'
    have e3 : rs = ir.rs := congrArg RF.rs hres'
    have e4 : b = ir.body.strip := congrArg RF.body hres'
    subst e3 e4
    refine ⟨⟨fn, hf, hname, by simp [hb]⟩, fun args cw Q hc N w0 X w rargs hG hS hA => ?_⟩
    obtain ⟨hlen, hw⟩ := hC args cw Q hc
    refine calls_of_wp hf hb (wp_mono (wpc_sound (X0 := X) (w1 := w) hm hK hG hKO ir.body body hrb hok hw ⟨hS, Ext.refl _ _, ?_, ?_, rfl⟩) ?_)
    · intro t c ht
      obtain ⟨_, hat⟩ := numb_get ht
      simp only [Nat.sub_zero] at hat
      obtain ⟨hlt, _⟩ := List.getElem?_eq_some_iff.1 hat
      have hsz := hA.1
      refine ⟨by simp; omega, ?_⟩
      have := hA.2 t c hat
      simp only [Array.getD_eq_getD_getElem?] at this ⊢
      rw [Array.getElem?_append_left (by omega)]
      exact this
    · have hsz := hA.1
      simp
      omega
    · rintro e a' w' ⟨re, X', ρ, cw', he, hs, hq⟩
      obtain ⟨hre, v, u, cw'', hv, hleave, hQ⟩ := hq
      obtain ⟨rv, r1, r2⟩ := results_run hrs hs hv
      have fin : ∃ c v' cw' X', Ending.returned rv = .returned v' ∧ Q c cw' ∧ Sim fid N w0 X' cw' w' ∧ Ext X w X' w' ∧ VR fid X' w' c v' := by
        cases hleave with
        | stay => exact ⟨_, _, _, X', rfl, hQ, hs.sim, hs.ext, r2⟩
        | gone hfz hkeep =>
          obtain ⟨s, ex⟩ := drop_sim hS hs.sim hs.ext hkeep
          refine ⟨_, _, _, _, rfl, hQ, s, ex, ?_⟩
          have := frz_vr hs.sim (by rw [hS.nx]; exact hfz) r2 hs.ext.nx
          exact this
      rcases hre with rfl | rfl <;> cases he
      · exact ⟨hs.nodef, rv, r1, fin⟩
      · exact ⟨hs.nodef, rv, r1, fin⟩
  · cases hres

end Go.Cs
