/- From the canonical machine's weakest precondition to Go's. -/
import Derived.Test.YtopnfbffcggnmaaDoorCsStep2
import Derived.Test.YtopnfbffcggnmaaDoorCsDraw
import Derived.Orders
import Derived.LoopN
import Derived.Scope
import Derived.Tactics
namespace Go.Cs
open Go.RowKit (Below)
variable {P : Program} {fid : FuncId → Option Nat} {N : Nat} {w0 : World} {X : Cx} {cw : CW} {w : World} {ρ : Env} {a : Act} {K : Nat → Ct} {pure : Nat → Bool} {G : Nat → World → Prop}

/-- Arguments, and Go's. -/
def ArgsR (fid : FuncId → Option Nat) (X : Cx) (w : World) (args : List CV) (rargs : Array Value) : Prop :=
  rargs.size = args.length ∧ ∀ (i : Nat) (c : CV), args[i]? = some c → VR fid X w c (rargs.getD i undef)

theorem ArgsR.append {l1 l2 : List CV} {a1 a2 : Array Value} (h1 : ArgsR fid X w l1 a1) (h2 : ArgsR fid X w l2 a2) : ArgsR fid X w (l1 ++ l2) (a1 ++ a2) := by
  obtain ⟨s1, h1⟩ := h1
  obtain ⟨s2, h2⟩ := h2
  refine ⟨by simp only [Array.size_append, List.length_append, s1, s2], fun i c hc => ?_⟩
  rw [Array.getD_eq_getD_getElem?, Array.getElem?_append]
  rw [List.getElem?_append] at hc
  by_cases hi : i < l1.length
  · rw [if_pos hi] at hc
    rw [if_pos (s1 ▸ hi)]
    have := h1 i c hc
    rwa [Array.getD_eq_getD_getElem?] at this
  · rw [if_neg hi] at hc
    rw [if_neg (s1 ▸ hi), s1]
    have := h2 _ c hc
    rwa [Array.getD_eq_getD_getElem?] at this

theorem args_of {args : Array Operand} {vs : List CV} (k1 : vs.length = args.size) (k2 : ∀ (i : Nat) (c : CV), vs[i]? = some c → VR fid X w c ((args.map a.eval).getD i undef)) : ArgsR fid X w vs (args.map a.eval) :=
  ⟨by simpa using k1.symm, k2⟩

/-- A contract holds of a function. -/
structure Sound (P : Program) (fid : FuncId → Option Nat) (G : Nat → World → Prop) (f : FuncId) (C : Ct) : Prop where
  enter : ∃ fn, P.funcs[f]? = some fn ∧ fn.name ≠ "runtime.NumGoroutine" ∧ fn.body.isSome = true
  calls : ∀ args cw Q, C args cw Q → ∀ N w0 X w rargs, G N w0 → Sim fid N w0 X cw w → ArgsR fid X w args rargs →
    Calls P f rargs w fun e w' => ∃ c v cw' X', e = .returned v ∧ Q c cw' ∧ Sim fid N w0 X' cw' w' ∧ Ext X w X' w' ∧ VR fid X' w' c v

def KSound (P : Program) (fid : FuncId → Option Nat) (G : Nat → World → Prop) (K : Nat → Ct) : Prop := ∀ f g, fid f = some g → (∃ args cw Q, K g args cw Q) → Sound P fid G f (K g)

theorem callFunc_run {f : FuncId} (h : ∃ fn, P.funcs[f]? = some fn ∧ fn.name ≠ "runtime.NumGoroutine" ∧ fn.body.isSome = true) (args : Array Value) : (callFunc f args).run P w = .ok (.enter f args) w := by
  obtain ⟨fn, h1, h2, h3⟩ := h
  obtain ⟨c, hc⟩ := Option.isSome_iff_exists.1 h3
  simp [callFunc, h1, h2, hc]

/-- Only calls resolve to calls. -/
def ROp.noCall : ROp → Bool
  | .call _ _ | .callv _ _ => false
  | _ => true

theorem noCall_bind {α : Type} {o : Option α} {f : α → Option ROp} {ro : ROp} (h : o.bind f = some ro) (k : ∀ x, f x = some ro → ro.noCall = true) : ro.noCall = true := by
  obtain ⟨x, _, hx⟩ := Option.bind_eq_some_iff.1 h
  exact k x hx

theorem resBuiltin_noCall {b : Builtin} {ts : Array TypeId} {xs : List Operand} {ro : ROp} (h : resBuiltin P fid b ts xs = some ro) : ro.noCall = true := by
  unfold resBuiltin at h
  repeat' (first | (refine noCall_bind h ?_; clear h; intro _ h) | (injection h with h; subst h; rfl) | (injection h; done) | split at h)

theorem resOp_noCall {own : Bool} {o : Op} {ro : ROp} (h : resOp P fid own o = some ro) (hc : ∀ c, o ≠ .call c) : ro.noCall = true := by
  unfold resOp at h
  repeat' (first | (exact absurd rfl (hc _)) | (refine noCall_bind h ?_; clear h; intro _ h) | (injection h with h; subst h; rfl) | (injection h; done) | split at h)

/-- One operation. -/
theorem one_ok (hK : KSound P fid G K) (hG : G N w0) {own : Bool} {o : Oper} {ro : ROp} {Qc : CV → CW → Prop} {next : Act → World → Prop} {Q : Exit → Act → World → Prop}
    (hr : resOp P fid own o.op = some ro) (hE : EnvR fid X w ρ a) (hS : Sim fid N w0 X cw w) (hw : wpOp K ro ρ cw Qc)
    (hn : ∀ c v cw' w' X', Qc c cw' → Sim fid N w0 X' cw' w' → Ext X w X' w' → VR fid X' w' c v → next (a.put o.dst v) w') : o.wp P a w next Q := by
  have nocall : (∀ g xs, ro ≠ .call g xs) → (∀ f xs, ro ≠ .callv f xs) → o.wp P a w next Q := by
    intro h1 h2
    have hw' : ∃ r, stepOp ro (ev ρ) cw = some r ∧ Qc r.1 r.2 := by
      unfold wpOp at hw
      split at hw
      · exact absurd rfl (h1 _ _)
      · exact absurd rfl (h2 _ _)
      · exact hw
    obtain ⟨⟨c, cw'⟩, hs, hq⟩ := hw'
    obtain ⟨v, w', X', hrun, s, ex, hv⟩ := op_ok hr hE hS hs
    unfold Oper.wp
    rcases hrun with hrun | ⟨hrun, rfl⟩
    · rw [hrun]; exact hn _ _ _ _ _ hq s ex hv
    · rw [hrun]; exact hn _ _ _ _ _ hq s ex hv
  have docall : ∀ (f : FuncId) (g : Nat) (rargs : Array Value) (args : List CV), (execOp a.eval o).run P w = (callFunc f rargs).run P w → fid f = some g → K g args cw Qc → ArgsR fid X w args rargs → o.wp P a w next Q := by
    intro f g rargs args hrun hf hk ha
    have hs := hK f g hf ⟨_, _, _, hk⟩
    unfold Oper.wp
    rw [hrun, callFunc_run hs.enter]
    refine Calls.mono (hs.calls args cw Qc hk N w0 X w rargs hG hS ha) ?_
    rintro e w' ⟨c, v, cw', X', rfl, hq, s, ex, hv⟩
    exact hn _ _ _ _ _ hq s ex hv
  by_cases hc : ro.noCall = true
  · exact nocall (by rintro g xs rfl; cases hc) (by rintro g xs rfl; cases hc)
  obtain ⟨dst, op, type, pos, after, guard⟩ := o
  simp only at hr
  have hop : ∃ cc, op = .call cc := by
    refine Classical.byContradiction fun hne => hc (resOp_noCall hr fun c hh => hne ⟨c, hh⟩)
  obtain ⟨⟨callee, args, argTypes⟩, rfl⟩ := hop
  cases callee with
  | builtin b => exact absurd (resBuiltin_noCall hr) hc
  | invoke r m => cases hr
  | value f =>
    have hv : ∀ (fx : RX) (xs : List RX), rx fid f = some fx → rxs fid args.toList = some xs → ro = .callv fx xs →
        Oper.wp P ⟨dst, .call ⟨.value f, args, argTypes⟩, type, pos, after, guard⟩ a w next Q := by
      rintro fx xs hf hxs rfl
      obtain ⟨g, first, caps, vs, hfx, hvs, hk⟩ := hw
      have hvf := rx_vr hf hfx hE
      obtain ⟨k1, k2⟩ := rxs_vr hxs hvs hE
      generalize hfv : a.eval f = rf at hvf
      cases hvf with
      | @fn ff _ _ _ f2 c2 hfid hl1 hl2 hf2 hc2 =>
        refine docall ff g (f2 ++ args.map a.eval ++ c2) (first ++ vs ++ caps) ?_ hfid hk (((show ArgsR fid X w first f2 from ⟨hl1, hf2⟩).append (args_of (by simpa using k1) fun i c hc => ?_)).append ⟨hl2, hc2⟩)
        · simp only [execOp, resolve, Sem.run_bind, Sem.run_pure, Result.andThen_ok, invoke, hfv, Deferred.ofValue]
        · simpa [Array.getD_eq_getD_getElem?] using k2 i c hc
    cases f with
    | func f =>
      simp only [resOp, Option.bind_eq_some_iff] at hr
      obtain ⟨g', hg, xs', hxs, hr⟩ := hr
      cases hr
      obtain ⟨vs, hvs, hk⟩ := hw
      obtain ⟨k1, k2⟩ := rxs_vr hxs hvs hE
      refine docall f g' (args.map a.eval) vs ?_ hg hk ⟨by simpa using k1.symm, fun i c hc => ?_⟩
      · simp only [execOp, resolve, Act.eval, Deferred.ofValue, Sem.run_bind, Sem.run_pure, Result.andThen_ok, invoke]
        simp
      · have := k2 i c hc
        simpa [Array.getD_eq_getD_getElem?] using this
    | _ =>
      simp only [resOp, Option.bind_eq_some_iff] at hr
      obtain ⟨fx, hf, xs', hxs, hr⟩ := hr
      cases hr
      exact hv _ _ hf hxs rfl

end Go.Cs
