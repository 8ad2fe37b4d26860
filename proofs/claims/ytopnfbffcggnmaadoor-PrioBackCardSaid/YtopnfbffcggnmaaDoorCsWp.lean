/- From the canonical machine's weakest precondition to Go's: code. -/
import Derived.Test.YtopnfbffcggnmaaDoorCsAny
import Derived.Test.YtopnfbffcggnmaaDoorCsMulti
namespace Go.Cs
open Go.RowKit (Below)
variable {P : Program} {fid : FuncId → Option Nat} {N : Nat} {w0 : World} {X : Cx} {cw : CW} {w : World} {ρ : Env} {a : Act} {K : Nat → Ct} {pure : Nat → Bool} {G : Nat → World → Prop}

def RC.ok (pure : Nat → Bool) : RC → Bool
  | .region ops draw live => if draw then live.isSome && drawOk pure ops else true
  | .seq a b => a.ok pure && b.ok pure
  | .cond _ a b => a.ok pure && b.ok pure
  | .block _ c => c.ok pure
  | .loop c => c.ok pure
  | .scope c => c.ok pure
  | .multi ops orders _ => multiOk pure ops orders
  | _ => true

theorem Res.mono {X0 : Cx} {w1 : World} {n : Nat} {Q Q' : RE → Env → CW → Prop} {e : Exit} {a : Act} {w : World} (h : Res fid N w0 X0 w1 n Q e a w) (hq : ∀ re ρ cw, Q re ρ cw → Q' re ρ cw) : Res fid N w0 X0 w1 n Q' e a w := by
  obtain ⟨re, X, ρ, cw, h1, h2, h3⟩ := h
  exact ⟨re, X, ρ, cw, h1, h2, hq _ _ _ h3⟩

theorem wpc_sound (hm : P.follows .mixedOrders = true) (hK : KSound P fid G K) (hG : G N w0) (hKO : KOk K pure) {own : List Nat} {n : Nat} {X0 : Cx} {w1 : World} :
    ∀ (ir : RC) (c : Code), resCode P fid own n c = some ir.strip → ir.ok pure = true → ∀ {X : Cx} {cw : CW} {w : World} {ρ : Env} {a : Act} {Q : RE → Env → CW → Prop},
      wpc K ir ρ cw Q → St fid N w0 X0 w1 n X cw w ρ a → c.wp P (Res fid N w0 X0 w1 n Q) a w := by
  intro ir
  induction ir with
  | skip =>
    intro c hr _ X cw w ρ a Q hw hS
    have : c = .skip := by cases c <;> simp [resCode, RC.strip, Option.bind_eq_some_iff] at hr ⊢
    subst this
    exact wp_skip ⟨.nx, X, ρ, cw, rfl, hS, hw⟩
  | label l =>
    intro c hr _ X cw w ρ a Q hw hS
    have : ∃ l, c = .label l := by cases c <;> simp [resCode, RC.strip, Option.bind_eq_some_iff] at hr ⊢
    obtain ⟨l', rfl⟩ := this
    exact wp_label ⟨.nx, X, ρ, cw, rfl, hS, hw⟩
  | exit id =>
    intro c hr _ X cw w ρ a Q hw hS
    have : c = .exit id := by cases c <;> simp [resCode, RC.strip, Option.bind_eq_some_iff] at hr ⊢ ; exact hr
    subst this
    exact wp_exit ⟨.exit id, X, ρ, cw, rfl, hS, hw⟩
  | ret =>
    intro c hr _ X cw w ρ a Q hw hS
    have : c = .ret := by cases c <;> simp [resCode, RC.strip, Option.bind_eq_some_iff] at hr ⊢
    subst this
    exact wp_ret ⟨.ret, X, ρ, cw, rfl, hS, hw⟩
  | region l draw live =>
    intro c hr hok X cw w ρ a Q hw hS
    have : ∃ id ops, c = .region id ops draw ∧ resOps P fid own n ops draw ops.toList = some l := by
      cases c <;> simp [resCode, RC.strip, Option.bind_eq_some_iff] at hr ⊢
      obtain ⟨_, h, rfl, rfl⟩ := hr
      exact ⟨_, _, ⟨rfl, rfl, rfl⟩, h⟩
    obtain ⟨id, ops, rfl, hres⟩ := this
    obtain ⟨h1, h2⟩ := resOps_spec hres
    have hl : ∀ (i : Nat) (o : Oper), ops[i]? = some o → ∃ r : RO, l[i]? = some r ∧ OpR P fid own n ops draw o r := fun i o ho => h2 i o (by simpa using ho)
    have hsz : l.length = ops.size := by simpa using h1
    cases draw with
    | false =>
      refine wp_region ?_
      rw [List.range_eq_range']
      exact region_text hK hG hl hsz ops.size 0 (by omega) hS (by simpa [wpc] using hw)
    | true =>
      simp only [RC.ok, if_true, Bool.and_eq_true] at hok
      obtain ⟨live, rfl⟩ := Option.isSome_iff_exists.1 hok.1
      refine wp_region_any hm (region_any (live := live) hK hG hKO hl hsz (fun i r hr => ?_) ops.size (js := List.range ops.size) (by simp) (by simp) ?_ ?_ hS.drew ?_)
      · have := drawGo_spec (full := l) l [] [] rfl rfl (by simp) hok.2 i r hr
        simpa using this
      · symm
        rw [List.filter_eq_self]
        intro i hi
        have hi := List.mem_range.1 hi
        simp [Array.getD, hi]
      · intro i r _ hf
        simp [Array.getD_eq_getD_getElem?, Array.getElem?_replicate] at hf
        split at hf <;> simp at hf
      · have e : (List.range ops.size).map (fun i => (l[i]?).getD default) = l := by
          refine List.ext_getElem (by simp [hsz]) fun i h1 h2 => ?_
          simp [List.getElem?_eq_getElem h2]
        rw [e]
        exact hw
  | multi l orders live =>
    intro c hr hok X cw w ρ a Q hw hS
    have : ∃ id ops, c = .region id ops true ∧ resOps P fid own n ops true ops.toList = some l := by
      cases c <;> simp [resCode, RC.strip, Option.bind_eq_some_iff] at hr ⊢
      obtain ⟨_, h, rfl, rfl⟩ := hr
      exact ⟨_, _, ⟨rfl, rfl, rfl⟩, h⟩
    obtain ⟨id, ops, rfl, hres⟩ := this
    obtain ⟨h1, h2⟩ := resOps_spec hres
    have hl : ∀ (i : Nat) (o : Oper), ops[i]? = some o → ∃ r : RO, l[i]? = some r ∧ OpR P fid own n ops true o r := fun i o ho => h2 i o (by simpa using ho)
    have hsz : l.length = ops.size := by simpa using h1
    simp only [RC.ok, multiOk, Bool.and_eq_true] at hok
    refine wp_region_any hm (region_multi (live := live) (os := orders) hK hG hKO hl hsz (fun i r hr k hk => ?_) ops.size (by simp) ?_ hS.drew hw)
    · have := List.all_eq_true.1 hok.1 (r, i) (by rw [List.mem_zipIdx_iff_getElem?]; exact hr)
      simpa using List.all_eq_true.1 this k hk
    · have e : (List.range ops.size).filter (fun i => !(Array.replicate ops.size false).getD i true) = List.range ops.size := by
        rw [List.filter_eq_self]
        intro i hi
        have hi := List.mem_range.1 hi
        simp [Array.getD, hi]
      rw [e, ← hsz]
      exact hok.2
  | seq x y ihx ihy =>
    intro c hr hok X cw w ρ a Q hw hS
    simp only [RC.ok, Bool.and_eq_true] at hok
    have : ∃ cx cy, c = .seq cx cy ∧ resCode P fid own n cx = some x.strip ∧ resCode P fid own n cy = some y.strip := by
      cases c <;> simp [resCode, RC.strip, Option.bind_eq_some_iff] at hr ⊢
      exact ⟨_, _, ⟨rfl, rfl⟩, hr⟩
    obtain ⟨cx, cy, rfl, h1, h2⟩ := this
    refine wp_seq (wp_mono (ihx cx h1 hok.1 hw hS) fun e a w h => ?_)
    obtain ⟨re, X, ρ, cw, he, hs, hq⟩ := h
    cases re with
    | nx => cases he; exact ihy cy h2 hok.2 hq hs
    | exit i => cases he; exact ⟨.exit i, X, ρ, cw, rfl, hs, hq⟩
    | ret => cases he; exact ⟨.ret, X, ρ, cw, rfl, hs, hq⟩
  | cond x y z ihy ihz =>
    intro c hr hok X cw w ρ a Q hw hS
    simp only [RC.ok, Bool.and_eq_true] at hok
    have : ∃ cx cy cz, c = .cond cx cy cz ∧ rx fid cx = some x ∧ resCode P fid own n cy = some y.strip ∧ resCode P fid own n cz = some z.strip := by
      cases c <;> simp [resCode, RC.strip, Option.bind_eq_some_iff] at hr ⊢
      obtain ⟨_, h1, _, h2, _, h3, rfl, rfl, rfl⟩ := hr
      exact ⟨_, _, _, ⟨rfl, rfl, rfl⟩, h1, h2, h3⟩
    obtain ⟨cx, cy, cz, rfl, h1, h2, h3⟩ := this
    obtain ⟨t, ht, hw⟩ := hw
    refine wp_cond (t := t) (rx_vr h1 ht hS.env).bool_inv ?_
    cases t
    · exact ihz cz h3 hok.2 (by simpa using hw) hS
    · exact ihy cy h2 hok.1 (by simpa using hw) hS
  | block id b ih =>
    intro c hr hok X cw w ρ a Q hw hS
    have : ∃ cb, c = .block id cb ∧ resCode P fid own n cb = some b.strip := by
      cases c <;> simp [resCode, RC.strip, Option.bind_eq_some_iff] at hr ⊢
      obtain ⟨h1, h0⟩ := hr
      exact ⟨_, ⟨h0, rfl⟩, h1⟩
    obtain ⟨cb, rfl, h1⟩ := this
    refine wp_block (wp_mono (ih cb h1 hok hw hS) fun e a w h => ?_)
    obtain ⟨re, X, ρ, cw, he, hs, hq⟩ := h
    cases re with
    | nx => cases he; exact ⟨.nx, X, ρ, cw, rfl, hs, hq⟩
    | exit i =>
      cases he
      simp only [blkQ] at hq
      simp only [exOf, Exit.inBlock]
      by_cases hi : i = id
      · rw [if_pos hi] at hq ⊢
        exact ⟨.nx, X, ρ, cw, rfl, hs, hq⟩
      · rw [if_neg hi] at hq ⊢
        exact ⟨.exit i, X, ρ, cw, rfl, hs, hq⟩
    | ret => cases he; exact ⟨.ret, X, ρ, cw, rfl, hs, hq⟩
  | loop b ih =>
    intro c hr hok X cw w ρ a Q hw hS
    have : ∃ cb, c = .loop cb ∧ resCode P fid own n cb = some b.strip := by
      cases c <;> simp [resCode, RC.strip, Option.bind_eq_some_iff] at hr ⊢
      exact hr
    obtain ⟨cb, rfl, h1⟩ := this
    obtain ⟨m, hw⟩ := hw
    refine wp_loop_rounds m ?_
    clear hr
    induction m generalizing X cw w ρ a with
    | zero => exact hw.elim
    | succ m ihm =>
      rw [rounds_succ]
      refine wp_mono (ih cb h1 hok hw hS) fun e a w h => ?_
      obtain ⟨re, X, ρ, cw, he, hs, hq⟩ := h
      cases re with
      | nx => cases he; exact ihm hs hq
      | exit i => cases he; exact ⟨.exit i, X, ρ, cw, rfl, hs, hq⟩
      | ret => cases he; exact ⟨.ret, X, ρ, cw, rfl, hs, hq⟩
  | scope b ih =>
    intro c hr hok X cw w ρ a Q hw hS
    have : ∃ cb, c = .scope cb ∧ resCode P fid own n cb = some b.strip := by
      cases c <;> simp [resCode, RC.strip, Option.bind_eq_some_iff] at hr ⊢
      exact hr
    obtain ⟨cb, rfl, h1⟩ := this
    refine wp_scope_straight (wp_mono (ih cb h1 hok hw hS) fun e a w h => ?_)
    obtain ⟨re, X, ρ, cw, he, hs, hq⟩ := h
    cases re <;> cases he <;> exact ⟨_, X, ρ, cw, rfl, hs, hq⟩

end Go.Cs
