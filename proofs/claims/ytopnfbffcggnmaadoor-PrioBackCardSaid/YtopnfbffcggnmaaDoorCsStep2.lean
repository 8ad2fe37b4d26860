/- Every operation that is no call of a function. -/
import Derived.Test.YtopnfbffcggnmaaDoorCsStep
namespace Go.Cs
open Go.RowKit (Below)
variable {P : Program} {fid : FuncId → Option Nat} {N : Nat} {w0 : World} {X : Cx} {cw : CW} {w : World} {ρ : Env} {a : Act}

theorem op_mov {x : Operand} {r : RX} {c : CV} {cw' : CW} (hr : rx fid x = some r) (hE : EnvR fid X w ρ a) (hS : Sim fid N w0 X cw w) (hs : stepOp (.mov r) (ev ρ) cw = some (c, cw')) :
    OpOk fid N w0 X P (pure (.value (a.eval x))) w c cw' := by
  simp only [stepOp] at hs
  obtain ⟨h1, rfl⟩ := pu_some hs
  exact ⟨_, w, X, .inl rfl, hS, .refl X w, rx_vr hr h1 hE⟩

theorem isU8_spec {e : TypeId} (h : isU8 P e = true) : P.underlying e = some (.int .u8) := by
  unfold isU8 at h
  split at h
  · assumption
  · cases h

theorem load_ok {t : TypeId} {q : Bool × Nat} {x : CV} {v : Value} {c : CV} {cw' : CW} (hS : Sim fid N w0 X cw w) (hq : tyOf P t = some q) (hx : VR fid X w x v)
    (h : (∃ b off cs, x = .ptr b off ∧ cw.get b = some (.cells cs) ∧ ldc q.1 q.2 cs off = some c) ∨ (∃ cs off, x = .row cs off ∧ ldc q.1 q.2 cs off = some c)) (hcw : cw' = cw) :
    OpOk fid N w0 X P (do pure (.value (← Instr.loadAt t v))) w c cw' := by
  subst hcw
  rcases h with ⟨b, off, cs, hx', hg, hl⟩ | ⟨cs, off, hx', hl⟩
  · obtain ⟨m, hm, hv, hr⟩ := (addr_ok hS hx).1 b off cs hx' hg
    subst hv
    obtain ⟨u, h1, h2⟩ := load_run (P := P) hq hr hl
    exact OpOk.pur hS (by simpa [Instr.loadAt, Instr.sureAddr] using h1) h2
  · obtain ⟨r, o, hv, hr⟩ := (addr_ok hS hx).2 cs off hx'
    subst hv
    obtain ⟨u, h1, h2⟩ := load_run (P := P) hq hr hl
    exact OpOk.pur hS (by simpa [Instr.loadAt, Instr.sureAddr] using h1) h2

theorem fld_ok {t : TypeId} {f : Field} {i : Nat} {fs : Array Field} {q : Bool × Nat} {cs : List CV} {v : Value} {c : CV} (hS : Sim fid N w0 X cw w) (ht : P.underlying t = some (.struct fs)) (hf : fs[i]? = some f)
    (hq : tyOf P f.type = some q) (hv : VR fid X w (.agg cs) v) (hl : ldc q.1 q.2 cs f.offset = some c) : OpOk fid N w0 X P (do pure (.value (← Instr.field t v i))) w c cw := by
  cases hv with
  | @agg _ us h1 h2 h3 =>
    obtain ⟨g1, g2, g3, g4, d, hd, hdd⟩ := tyOf_spec (w := w) hq
    have hpart : ∃ u, (part f.type us f.offset).run P w = .ok u w ∧ VR fid X w c u := by
      unfold ldc at hl
      split at hl
      · rename_i ha
        split at hl
        · rename_i hle
          cases hl
          refine ⟨.agg (us.extract f.offset (f.offset + q.2)), by simp only [part, Sem.run_bind, g1, ha, Result.andThen_ok, if_true, g2, Sem.run_pure], .agg (by simp; omega) (fun j c hc => ?_) fun j c hc => ?_⟩
          all_goals
            rw [List.getElem?_take] at hc
            split at hc
            · rename_i hj
              rw [List.getElem?_drop] at hc
              first
                | exact h2 _ c hc
                | (have := h3 _ c hc
                   have e : (us.extract f.offset (f.offset + q.2)).getD j undef = us.getD (f.offset + j) undef := by
                     simp only [Array.getD_eq_getD_getElem?, Array.getElem?_extract]
                     rw [if_pos (by omega)]
                   rw [e]; exact this)
            · cases hc
        · cases hl
      · rename_i ha
        have hlt : f.offset < us.size := by have := (List.getElem?_eq_some_iff.1 hl).1; omega
        refine ⟨us.getD f.offset undef, ?_, h3 _ c hl⟩
        simp [part, g1, ha, hlt]
    obtain ⟨u, hu, hvu⟩ := hpart
    exact OpOk.pur hS (by simp [Instr.field, run_underlying ht, hf, asAgg, hu]) hvu

theorem idx_ok {t e : TypeId} {len : Nat} {q : Bool × Nat} {cs : List CV} {v vi : Value} {iv c : CV} {i : Int} (hS : Sim fid N w0 X cw w) (ht : P.underlying t = some (.array len e))
    (hq : tyOf P e = some q) (hv : VR fid X w (.agg cs) v) (hi : VR fid X w iv vi) (hin : intV iv = some i) (h0 : 0 ≤ i) (h1 : i < len) (hl : ldc q.1 q.2 cs (i.toNat * q.2) = some c) :
    OpOk fid N w0 X P (do pure (.value (← Instr.index t v vi))) w c cw := by
  obtain ⟨k, rfl⟩ := intV_inv hin hi
  cases hv with
  | @agg _ us g0 h2 h3 =>
    obtain ⟨g1, g2, g3, g4, d, hd, hdd⟩ := tyOf_spec (w := w) hq
    have hpart : ∃ u, (part e us (i.toNat * q.2)).run P w = .ok u w ∧ VR fid X w c u := by
      unfold ldc at hl
      split at hl
      · rename_i ha
        split at hl
        · rename_i hle
          cases hl
          refine ⟨.agg (us.extract (i.toNat * q.2) (i.toNat * q.2 + q.2)), by simp only [part, Sem.run_bind, g1, ha, Result.andThen_ok, if_true, g2, Sem.run_pure], .agg (by simp; omega) (fun j c hc => ?_) fun j c hc => ?_⟩
          all_goals
            rw [List.getElem?_take] at hc
            split at hc
            · rename_i hj
              rw [List.getElem?_drop] at hc
              first
                | exact h2 _ c hc
                | (have := h3 _ c hc
                   have e : (us.extract (i.toNat * q.2) (i.toNat * q.2 + q.2)).getD j undef = us.getD (i.toNat * q.2 + j) undef := by
                     simp only [Array.getD_eq_getD_getElem?, Array.getElem?_extract]
                     rw [if_pos (by omega)]
                   rw [e]; exact this)
            · cases hc
        · cases hl
      · rename_i ha
        have hlt : i.toNat * q.2 < us.size := by have := (List.getElem?_eq_some_iff.1 hl).1; omega
        refine ⟨us.getD (i.toNat * q.2) undef, ?_, h3 _ c hl⟩
        simp [part, g1, ha, hlt]
    obtain ⟨u, hu, hvu⟩ := hpart
    exact OpOk.pur hS (by simp only [Instr.index, asIntOf, Sem.run_bind, Sem.run_pure, Result.andThen_ok, run_underlying ht, h0, h1, and_self, if_true, g2, hu]) hvu

theorem op_ok {own : Bool} {o : Oper} {ro : ROp} {c : CV} {cw' : CW} (hr : resOp P fid own o.op = some ro) (hE : EnvR fid X w ρ a) (hS : Sim fid N w0 X cw w) (hs : stepOp ro (ev ρ) cw = some (c, cw')) :
    OpOk fid N w0 X P (execOp a.eval o) w c cw' := by
  obtain ⟨dst, op, type, pos, after, guard⟩ := o
  simp only at hr
  cases op with
  | move x =>
    simp only [resOp, Option.bind_eq_some_iff] at hr
    obtain ⟨x', hx, hr⟩ := hr
    cases hr
    exact op_mov hx hE hS hs
  | assign x =>
    simp only [resOp, Option.bind_eq_some_iff] at hr
    obtain ⟨x', hx, hr⟩ := hr
    cases hr
    exact op_mov hx hE hS hs
  | pick cc x y =>
    simp only [resOp, Option.bind_eq_some_iff] at hr
    obtain ⟨c', hc, x', hx, y', hy, hr⟩ := hr
    cases hr
    simp only [stepOp] at hs
    split at hs
    · rename_i t ht
      obtain ⟨h1, rfl⟩ := pu_some hs
      have hb := (rx_vr hc ht hE).bool_inv
      cases t
      · exact ⟨_, w, X, .inl (by simp [execOp, hb, asBool]), hS, .refl X w, rx_vr hy h1 hE⟩
      · exact ⟨_, w, X, .inl (by simp [execOp, hb, asBool]), hS, .refl X w, rx_vr hx h1 hE⟩
    · cases hs
  | alloc t =>
    simp only [resOp, Option.bind_eq_some_iff] at hr
    obtain ⟨z, hz, hr⟩ := hr
    cases hr
    simp only [stepOp] at hs
    cases hs
    exact alloc_ok hS hz
  | box t x =>
    simp only [resOp, Option.bind_eq_some_iff] at hr
    obtain ⟨n, hn, x', hx, hr⟩ := hr
    cases hr
    simp only [stepOp, Option.bind_eq_some_iff] at hs
    obtain ⟨v, hv, hs⟩ := hs
    split at hs
    · rename_i h1
      cases hs
      exact box_ok (n := n) hS (rx_vr hx hv hE) h1.2
    · cases hs
  | build t ps =>
    simp only [resOp, Option.bind_eq_some_iff] at hr
    obtain ⟨z, hz, hr⟩ := hr
    split at hr
    · rename_i fs hu
      simp only [Option.bind_eq_some_iff] at hr
      obtain ⟨l, hl, hr⟩ := hr
      split at hr
      · rename_i hall
        cases hr
        simp only [stepOp, Option.bind_eq_some_iff] at hs
        obtain ⟨cs, hcs, hs⟩ := hs
        cases hs
        obtain ⟨v, h1, h2⟩ := build_ok hz hu hl hall hE hcs
        exact OpOk.pur hS h1 h2
      · cases hr
    · rename_i len e hu
      simp only [Option.bind_eq_some_iff] at hr
      obtain ⟨n, hn, l, hl, hr⟩ := hr
      cases hr
      simp only [stepOp, Option.bind_eq_some_iff] at hs
      obtain ⟨cs, hcs, hs⟩ := hs
      cases hs
      obtain ⟨v, h1, h2⟩ := build_arr hz hu hn hl hE hcs
      exact OpOk.pur hS h1 h2
    · cases hr
  | buildSlice t len ps =>
    simp only [resOp] at hr
    split at hr
    · rename_i e hu
      simp only [Option.bind_eq_some_iff] at hr
      obtain ⟨z, hz, n, hn, l, hl, hr⟩ := hr
      split at hr
      · cases hr
      · rename_i hno
        cases hr
        simp only [stepOp, Option.bind_eq_some_iff] at hs
        obtain ⟨cs, hcs, hs⟩ := hs
        obtain ⟨arr, h1, h2, h3⟩ := lit_run (w := w) hu hz hn hl hno hE hcs
        split at hs
        · cases hs
          obtain ⟨X', s, ex, hnx, hM⟩ := new_mut (T := e) (fr := (0, 0)) hS (cs := cs) (rcs := arr) (by rw [h2.1]; exact Nat.le_refl _) (.inl (Nat.le_refl _)) h2.2
          refine OpOk.val h1 s ex (.ref (by omega) (Nat.le_refl _) fun m hm => ?_)
          rw [hM] at hm; cases hm
          exact ⟨rfl, by rw [Nat.zero_add]; exact h3.symm⟩
        · cases hs
          obtain ⟨X', s, ex, hv⟩ := new_imm (T := e) (fr := (0, 0)) hS (cs := cs) (rcs := arr) (by rw [h2.1]; exact Nat.le_refl _) h2.2 (n := len) (cap := len) (clip := true) (Nat.le_refl _) (fun _ => rfl)
          exact OpOk.val h1 s ex hv
    · cases hr
  | load t x =>
    simp only [resOp, Option.bind_eq_some_iff] at hr
    obtain ⟨q, hq, x', hx, hr⟩ := hr
    cases hr
    simp only [stepOp] at hs
    split at hs
    · rename_i b off he
      split at hs
      · rename_i cs hg
        obtain ⟨h1, h2⟩ := pu_some hs
        exact load_ok hS hq (rx_vr hx he hE) (.inl ⟨b, off, cs, rfl, hg, h1⟩) h2
      · cases hs
    · rename_i cs off he
      obtain ⟨h1, h2⟩ := pu_some hs
      exact load_ok hS hq (rx_vr hx he hE) (.inr ⟨cs, off, rfl, h1⟩) h2
    · cases hs
  | store t x v =>
    simp only [resOp, Option.bind_eq_some_iff] at hr
    obtain ⟨n, hn, x', hx, v', hv, hr⟩ := hr
    cases hr
    simp only [stepOp] at hs
    split at hs
    · rename_i b off he
      split at hs
      · rename_i cs hg
        simp only [Option.bind_eq_some_iff] at hs
        obtain ⟨u, hu, hs⟩ := hs
        split at hs
        · rename_i hc
          cases hs
          exact store_ok hS hn (rx_vr hx he hE) hg (rx_vr hv hu hE) hc.1 hc.2.1 hc.2.2
        · cases hs
      · cases hs
    · cases hs
  | nilCheck x =>
    simp only [resOp, Option.bind_eq_some_iff] at hr
    obtain ⟨x', hx, hr⟩ := hr
    cases hr
    simp only [stepOp] at hs
    split at hs
    · rename_i b off he
      cases hs
      have hv := rx_vr hx he hE
      refine ⟨a.eval x, w, X, .inl ?_, hS, .refl X w, hv⟩
      simp only [execOp]
      generalize a.eval x = v at hv ⊢
      cases hv; rfl
    · rename_i cs off he
      cases hs
      have hv := rx_vr hx he hE
      refine ⟨a.eval x, w, X, .inl ?_, hS, .refl X w, hv⟩
      simp only [execOp]
      generalize a.eval x = v at hv ⊢
      cases hv; rfl
    · cases hs
  | binOp op t x y yt =>
    simp only [resOp, Option.bind_eq_some_iff] at hr
    obtain ⟨x', hx, y', hy, hr⟩ := hr
    have hbin : ro = .bin op x' y' → OpOk fid N w0 X P (execOp a.eval { dst, op := .binOp op t x y yt, type, pos, after, guard }) w c cw' := by
      rintro rfl
      simp only [stepOp] at hs
      obtain ⟨h1, rfl⟩ := pu_some hs
      simp only [Option.bind_eq_some_iff] at h1
      obtain ⟨u, hu, v, hv, h1⟩ := h1
      have hvx := rx_vr hx hu hE
      have hvy := rx_vr hy hv hE
      obtain ⟨r, g1, g2⟩ := binV_run (P := P) (w := w) (t := t) h1 hvx hvy
      obtain ⟨n1, n2⟩ := binV_guard h1 hvx
      have hg := guard_run (P := P) (w := w) (op := op) (t := t) (x := x) (y := y) (v := a.eval y) n1 n2
      exact OpOk.pur hS (by simp only [Sem.run_bind, hg, Result.andThen_ok]; exact g1) g2
    have heq : ∀ neg k, op = (if neg then .neq else .eql) → eqK P t = some k → ro = .eq neg k x' y' → OpOk fid N w0 X P (execOp a.eval { dst, op := .binOp op t x y yt, type, pos, after, guard }) w c cw' := by
      rintro neg k rfl hk rfl
      simp only [stepOp] at hs
      obtain ⟨h1, rfl⟩ := pu_some hs
      simp only [Option.bind_eq_some_iff] at h1
      obtain ⟨u, hu, v, hv, r, hrr, h1⟩ := h1
      cases h1
      exact OpOk.pur hS (eqOp_run (xo := x) (yo := y) hk (rx_vr hx hu hE) (rx_vr hy hv hE) hrr) (.bool _)
    split at hr
    · cases hr; exact hbin rfl
    · cases hr; exact hbin rfl
    · cases hr; exact hbin rfl
    · cases hr; exact hbin rfl
    · simp only [Option.bind_eq_some_iff] at hr
      obtain ⟨k, hk, hr⟩ := hr
      cases hr
      exact heq false k rfl hk rfl
    · simp only [Option.bind_eq_some_iff] at hr
      obtain ⟨k, hk, hr⟩ := hr
      cases hr
      exact heq true k rfl hk rfl
    · cases hr; exact hbin rfl
  | unOp op t x =>
    simp only [resOp, Option.bind_eq_some_iff] at hr
    obtain ⟨x', hx, hr⟩ := hr
    split at hr <;> cases hr
    · simp only [stepOp] at hs
      split at hs <;> cases hs
      rename_i b he
      exact OpOk.pur hS (by rw [(rx_vr hx he hE).bool_inv]; rfl) (.bool _)
    · simp only [stepOp] at hs
      split at hs <;> cases hs
      rename_i k n he
      exact OpOk.pur hS (by rw [(rx_vr hx he hE).int_inv]; rfl) (.int _ _)
    · simp only [stepOp] at hs
      split at hs <;> cases hs
      rename_i k n he
      exact OpOk.pur hS (by rw [(rx_vr hx he hE).int_inv]; rfl) (.int _ _)
  | convert s d x =>
    simp only [resOp, Option.bind_eq_some_iff] at hr
    obtain ⟨x', hx, hr⟩ := hr
    split at hr
    · rename_i k0 k hu1 hu2
      cases hr
      simp only [stepOp] at hs
      split at hs <;> cases hs
      rename_i k' n he
      exact OpOk.pur hS (by rw [(rx_vr hx he hE).int_inv]; simp only [convert, Sem.run_bind, run_underlying hu1, run_underlying hu2, Result.andThen_ok]; rfl) (.int _ _)
    · rename_i hu1 hu2
      cases hr
      simp only [stepOp] at hs
      split at hs <;> cases hs
      rename_i l he
      exact OpOk.pur hS (by rw [(rx_vr hx he hE).str_inv]; simp only [convert, Sem.run_bind, run_underlying hu1, run_underlying hu2, Result.andThen_ok]; rfl) (VR.str' l)
    · rename_i e hu1 hu2
      split at hr
      · rename_i h8
        cases hr
        have hu3 := isU8_spec h8
        simp only [stepOp] at hs
        split at hs
        · rename_i l he
          have hconv : (convert s d (.string ⟨l.toArray⟩)).run P w = (Conv.stringToBytes e ⟨l.toArray⟩).run P w := by
            simp only [convert, Sem.run_bind, run_underlying hu1, run_underlying hu2, run_underlying hu3, Result.andThen_ok]
          obtain ⟨cap, rest, fr, g1, g2, g3, g4⟩ := s2b_run (P := P) (w := w) (e := e) l
          have hsz : (byteCells l).length ≤ ((l.map fun b => Value.int .u8 b.toNat).toArray ++ rest).size := by simp [byteCells]
          have hcell : ∀ (i : Nat) (c : CV), (byteCells l)[i]? = some c → c.one = true ∧ VR fid X w c (((l.map fun b => Value.int .u8 b.toNat).toArray ++ rest).getD i undef) := by
            intro i c hc
            obtain ⟨b, hb, rfl⟩ := byteCells_at hc
            refine ⟨rfl, ?_⟩
            have hi : i < l.length := (List.getElem?_eq_some_iff.1 hb).1
            have : ((l.map fun b => Value.int .u8 b.toNat).toArray ++ rest).getD i undef = .int .u8 b.toNat := by
              rw [Array.getD_eq_getD_getElem?, Array.getElem?_append_left (by simpa using hi)]
              simp [hb]
            rw [this]; exact .int _ _
          obtain ⟨s1, e1⟩ := hS.same (drew_below w)
          split at hs
          · cases hs
            obtain ⟨X', s2, e2, hnx, hM⟩ := new_mut (T := e) (fr := fr) s1 hsz g2 (fun i c hc => ⟨(hcell i c hc).1, (hcell i c hc).2.mono e1⟩)
            refine OpOk.val (by rw [(rx_vr hx he hE).str_inv, hconv]; exact g4) s2 (e1.trans e2) (.ref (by omega) g1 fun m hm => ?_)
            rw [hM] at hm; cases hm
            exact ⟨rfl, by rw [Nat.zero_add, Nat.mul_one]; exact g3.symm⟩
          · cases hs
            obtain ⟨X', s2, e2, hv⟩ := new_imm (T := e) (fr := fr) s1 hsz (fun i c hc => ⟨(hcell i c hc).1, (hcell i c hc).2.mono e1⟩) (n := l.length) (cap := cap) (clip := false) g1 (by simp)
            exact OpOk.val (by rw [(rx_vr hx he hE).str_inv, hconv]; exact g4) s2 (e1.trans e2) hv
        · cases hs
      · cases hr
    · rename_i e hu1 hu2
      split at hr
      · rename_i h8
        cases hr
        have hu3 := isU8_spec h8
        simp only [stepOp, Option.bind_eq_some_iff] at hs
        obtain ⟨v, hv, hs⟩ := hs
        split at hs
        · cases hs
        · rename_i hns
          simp only [Option.bind_eq_some_iff] at hs
          obtain ⟨p, hp, l, hl, hs⟩ := hs
          cases hs
          have hvx := rx_vr hx hv hE
          have hb := b2s_ok (P := P) hS hvx (fun s e => hns s e) hp hl
          have hconv : (convert s d (a.eval x)).run P w = (Conv.bytesToString (a.eval x)).run P w := by
            have hform : ∃ b n c, a.eval x = .slice b n c := by
              generalize a.eval x = u at hvx
              cases v with
              | nils => cases hvx; exact ⟨_, _, _, rfl⟩
              | vec _ _ _ => cases hvx; exact ⟨_, _, _, rfl⟩
              | ref _ _ _ _ => cases hvx; exact ⟨_, _, _, rfl⟩
              | str s => exact absurd rfl (hns s)
              | _ => simp [seqOf] at hp
            obtain ⟨b, n, c, hf⟩ := hform
            rw [hf]
            cases b <;> simp only [convert, Sem.run_bind, run_underlying hu1, run_underlying hu2, run_underlying hu3, Result.andThen_ok]
          exact OpOk.pur hS (by rw [hconv]; exact hb) (VR.str' l)
      · cases hr
    · cases hr
  | makeInterface t x =>
    simp only [resOp, Option.bind_eq_some_iff] at hr
    obtain ⟨x', hx, hr⟩ := hr
    split at hr
    · cases hr
    · rename_i d hni hu
      cases hr
      simp only [stepOp, Option.bind_eq_some_iff] at hs
      obtain ⟨v, hv, hs⟩ := hs
      cases hs
      refine OpOk.pur hS ?_ (.ifc (rx_vr hx hv hE))
      simp only [Instr.makeInterface, Sem.run_bind, run_underlying hu, Result.andThen_ok]
      cases d <;> first | rfl | exact absurd rfl (hni _)
    · cases hr
  | makeFunc fn f1 c1 =>
    cases fn <;> simp only [resOp] at hr <;> first | cases hr; done | skip
    rename_i f
    simp only [Option.bind_eq_some_iff] at hr
    obtain ⟨g, hg, f2, hf2, c2, hc2, hr⟩ := hr
    cases hr
    simp only [stepOp, Option.bind_eq_some_iff] at hs
    obtain ⟨fs, hfs, cs, hcs, hs⟩ := hs
    cases hs
    obtain ⟨k1, k2⟩ := rxs_vr hf2 hfs hE
    obtain ⟨k3, k4⟩ := rxs_vr hc2 hcs hE
    refine OpOk.pur hS rfl (.fn hg (by simp [k1]) (by simp [k3]) (fun i c hc => ?_) fun i c hc => ?_)
    · have := k2 i c hc
      simpa [Array.getD_eq_getD_getElem?] using this
    · have := k4 i c hc
      simpa [Array.getD_eq_getD_getElem?] using this
  | makeMap t r =>
    cases r with
    | none =>
      simp only [resOp] at hr
      cases hr
      simp only [stepOp] at hs
      cases hs
      exact mkmap_ok hS
    | some r => simp only [resOp] at hr; cases hr
  | makeSlice t l cc =>
    simp only [resOp] at hr
    split at hr
    · rename_i e hu
      simp only [Option.bind_eq_some_iff] at hr
      obtain ⟨i, hi, z, hz, l', hl, c', hc, hr⟩ := hr
      split at hr
      · cases hr
      · rename_i hno
        cases hr
        simp only [stepOp, Option.bind_eq_some_iff] at hs
        obtain ⟨lv, hlv, ln, hln, cv, hcv, cn, hcn, hs⟩ := hs
        split at hs
        · rename_i hb
          cases hs
          exact mk_ok hS hu hi hno hz (rx_vr hl hlv hE) (rx_vr hc hcv hE) hln hcn hb.1 hb.2.1 hb.2.2
        · cases hs
    · cases hr
  | slice t x lo hi mx =>
    simp only [resOp, Option.bind_eq_some_iff] at hr
    obtain ⟨x', hx, lo', hlo, hi', hhi, mx', hmx, hr⟩ := hr
    split at hr
    · rename_i hu
      split at hr
      · cases hr
      · rename_i hmn
        cases hr
        simp only [stepOp] at hs
        split at hs
        · rename_i l he
          simp only [Option.bind_eq_some_iff] at hs
          obtain ⟨lov, hlov, hiv, hhiv, h, hh, o, ho, hs⟩ := hs
          split at hs
          · rename_i hb
            cases hs
            have hm : mx.map a.eval = none := by
              cases mx with
              | none => rfl
              | some m =>
                simp only [rxo, Option.bind_eq_some_iff] at hmx
                obtain ⟨_, _, hmx⟩ := hmx
                cases hmx
                simp at hmn
            obtain ⟨v, g1, g2⟩ := subS_ok (P := P) hu (rxo_vr hlo hlov hE) (rxo_vr hhi hhiv hE) ho hh hb.1 hb.2.1 hb.2.2
            exact OpOk.pur hS (by simp only [hm, (rx_vr hx he hE).str_inv]; exact g1) g2
          · cases hs
        · cases hs
    · rename_i e hu
      simp only [Option.bind_eq_some_iff] at hr
      obtain ⟨n, hn, hr⟩ := hr
      split at hr
      · cases hr
      rename_i hn0
      cases hr
      simp only [stepOp, Option.bind_eq_some_iff] at hs
      obtain ⟨xv, hxv, lov, hlov, hiv, hhiv, mxv, hmxv, o, ho, hs⟩ := hs
      have hvx := rx_vr hx hxv hE
      have rlo := rxo_vr (w := w) (X := X) hlo hlov hE
      have rhi := rxo_vr (w := w) (X := X) hhi hhiv hE
      have rmx := rxo_vr (w := w) (X := X) hmx hmxv hE
      show OpOk fid N w0 X P (do pure (.value (← Instr.sliceAt t (a.eval x) (lo.map a.eval) (hi.map a.eval) (mx.map a.eval)))) w c cw'
      generalize a.eval x = vx at hvx ⊢
      generalize lo.map a.eval = vlo at rlo ⊢
      generalize hi.map a.eval = vhi at rhi ⊢
      generalize mx.map a.eval = vmx at rmx ⊢
      split at hs
      · -- nil, two bounds
        cases vmx with
        | some m => exact rmx.elim
        | none =>
          simp only [Option.bind_eq_some_iff] at hs
          obtain ⟨h, hh, hs⟩ := hs
          split at hs
          · rename_i hb
            obtain ⟨rfl, rfl⟩ := hb
            cases hs
            cases hvx
            have hbd := bounds2 (P := P) (isS := true) (len := 0) (cap := 0) rlo rhi ho hh (Int.le_refl _) (Int.le_refl _) (Int.le_refl _) (Nat.le_refl _)
            exact OpOk.pur hS (sub_slice_run hu hn hbd) (by simpa using VR.nils)
          · cases hs
      · rename_i m
        cases vmx with
        | none => exact rmx.elim
        | some vm =>
          simp only [Option.bind_eq_some_iff] at hs
          obtain ⟨mi, hmi, h, hh, hs⟩ := hs
          split at hs
          · rename_i hb
            obtain ⟨rfl, rfl, rfl⟩ := hb
            cases hs
            cases hvx
            have hbd := bounds3 (P := P) (isS := true) (len := 0) (cap := 0) rlo rhi rmx ho hh hmi (Int.le_refl _) (Int.le_refl _) (Int.le_refl _) (Int.le_refl _)
            exact OpOk.pur hS (sub_slice_run hu hn hbd) (by simpa using VR.nils)
          · cases hs
      · rename_i cs k clip
        cases vmx with
        | some m => exact rmx.elim
        | none =>
          simp only [Option.bind_eq_some_iff] at hs
          obtain ⟨h, hh, hs⟩ := hs
          split at hs
          · rename_i hb
            obtain ⟨b1, b2, b3, b4⟩ := hb
            cases hs
            obtain ⟨r, oo, cap, rfl, k1, k2, k3, k4⟩ := hvx.vec_inv
            have hbd := bounds2 (P := P) (isS := true) (len := k) (cap := cap) rlo rhi ho hh b1 b2 (by omega) k1
            refine OpOk.pur hS (sub_slice_run hu hn hbd) (vec_sub k3 k4 (by omega) (by omega) fun hc => ?_)
            simp only [Bool.and_eq_true, beq_iff_eq] at hc
            rw [k2 hc.1]; omega
          · cases hs
      · rename_i cs k clip m
        cases vmx with
        | none => exact rmx.elim
        | some vm =>
          simp only [Option.bind_eq_some_iff] at hs
          obtain ⟨mi, hmi, h, hh, hs⟩ := hs
          split at hs
          · rename_i hb
            obtain ⟨b1, b2, b3, b4, b5⟩ := hb
            cases hs
            obtain ⟨r, oo, cap, rfl, k1, k2, k3, k4⟩ := hvx.vec_inv
            have hbd := bounds3 (P := P) (isS := true) (len := k) (cap := cap) rlo rhi rmx ho hh hmi b1 b2 b3 (by omega)
            refine OpOk.pur hS (sub_slice_run hu hn hbd) (vec_sub k3 k4 (by omega) (by omega) fun hc => ?_)
            simp only [beq_iff_eq] at hc
            rw [hc]
          · cases hs
      · rename_i b off k s
        cases vmx with
        | some m => exact rmx.elim
        | none =>
          simp only [Option.bind_eq_some_iff] at hs
          obtain ⟨h, hh, hs⟩ := hs
          split at hs
          · cases hs
          · rename_i hsz
            have hsz := Classical.not_not.1 hsz
            subst hsz
            split at hs
            · rename_i cs hg
              split at hs
              · rename_i hb
                obtain ⟨b1, b2, b3⟩ := hb
                cases hs
                cases hvx with
                | @ref _ _ _ _ cap ad g1 g2 g3 =>
                  obtain ⟨m, hm, hor⟩ := hS.get hg
                  obtain ⟨rfl, hcap⟩ := g3 m hm
                  obtain ⟨rcs, T, fr, o1, o2, o3, o4, o5⟩ := hor
                  have hle : h.toNat ≤ cap := mul_le_of (sz := s) (by omega) hn0
                  have hbd := bounds2 (P := P) (isS := true) (len := k) (cap := cap) rlo rhi ho hh b1 b2 (by omega) g2
                  refine OpOk.pur hS (sub_slice_run hu hn hbd) ?_
                  by_cases hoh : o = h ∧ o ≠ 0
                  · rw [if_pos hoh]
                    have hz : h.toNat - o.toNat = 0 := by omega
                    rw [hz]
                    by_cases hcl : cap = o.toNat
                    · rw [if_pos hcl]
                      exact RowAt.vec (fun i c hc => by simp at hc) (fun i c hc => by simp at hc) (by omega) (by simp)
                    · rw [if_neg hcl]
                      simp only [Option.map_some, add_none]
                      exact RowAt.vec (fun i c hc => by simp at hc) (fun i c hc => by simp at hc) (by omega) (by simp)
                  · rw [if_neg hoh]
                    have key : VR fid X w (.ref b (off + o.toNat * s) (h.toNat - o.toNat) s) (.slice (some ⟨m.1, m.2.1 + off + o.toNat * s, none⟩) (h.toNat - o.toNat) (cap - o.toNat)) := by
                      refine .ref g1 (by omega) fun m' hm' => ?_
                      rw [hm] at hm'; cases hm'
                      refine ⟨by rw [Nat.add_assoc], ?_⟩
                      have : o.toNat * s + (cap - o.toNat) * s = cap * s := by rw [← Nat.add_mul]; congr 1; omega
                      omega
                    by_cases hcl : cap = o.toNat
                    · rw [if_pos hcl]
                      have h0 : o.toNat = 0 := by omega
                      rw [h0, Nat.zero_mul, Nat.add_zero] at key
                      rw [h0]
                      simpa using key
                    · rw [if_neg hcl]
                      simp only [Option.map_some, add_none]
                      exact key
              · cases hs
            · cases hs
      · rename_i b off k s m
        cases vmx with
        | none => exact rmx.elim
        | some vm =>
          simp only [Option.bind_eq_some_iff] at hs
          obtain ⟨mi, hmi, h, hh, hs⟩ := hs
          split at hs
          · rename_i ob hg
            split at hs
            · rename_i hb
              obtain ⟨b1, b2, b3, b4⟩ := hb
              subst b2; subst b3
              cases hs
              obtain ⟨m', hm', _⟩ := hS.get hg
              cases hvx with
              | @ref _ _ _ _ cap ad g1 g2 g3 =>
                obtain ⟨rfl, _⟩ := g3 m' hm'
                have hbd := bounds3 (P := P) (isS := true) (len := k) (cap := cap) rlo rhi rmx ho hh hmi b1 (Int.le_refl _) (Int.le_refl _) (by omega)
                refine OpOk.pur hS (sub_slice_run hu hn hbd) ?_
                rw [if_pos rfl, Nat.sub_self]
                exact RowAt.vec (fun i c hc => by simp at hc) (fun i c hc => by simp at hc) (Nat.le_refl _) (fun _ => rfl)
            · cases hs
          · cases hs
      · cases hs
    · rename_i n e hu
      simp only [Option.bind_eq_some_iff] at hr
      obtain ⟨s, hsz, hr⟩ := hr
      split at hr
      · cases hr
      · rename_i hno
        cases hr
        simp only [Bool.or_eq_true, not_or, beq_iff_eq, Bool.not_eq_true, Option.isSome_eq_false_iff, Option.isNone_iff_eq_none] at hno
        obtain ⟨⟨⟨n1, n2⟩, n3⟩, n4⟩ := hno
        simp only [stepOp] at hs
        split at hs
        · rename_i b he
          split at hs
          · rename_i cs hg
            split at hs
            · rename_i hlen
              cases hs
              have hvx := rx_vr hx he hE
              have onone : ∀ {x : Option Operand} {r : Option RX}, rxo fid x = some r → r = none → x = none := by
                intro x r h1 h2
                subst h2
                cases x with
                | none => rfl
                | some x => simp only [rxo, Option.bind_eq_some_iff] at h1; obtain ⟨_, _, h1⟩ := h1; cases h1
              have e1 := onone hlo n1
              have e2 := onone hhi n2
              have e3 := onone hmx n3
              subst e1; subst e2; subst e3
              obtain ⟨mm, hmm, hor⟩ := hS.get hg
              obtain ⟨rcs, T, fr, o1, o2, o3, o4, o5⟩ := hor
              have hv : a.eval x = .pointer (some ⟨mm.1, mm.2.1, none⟩) := by
                generalize a.eval x = v at hvx
                cases hvx with
                | ptr g1 g2 => rw [g2 mm hmm]; rfl
              obtain ⟨sk, ek⟩ := hS.kill b
              have hMk : ∀ b' m', (if b' = b then none else X.M b') = some m' → m'.1 ≠ mm.1 := by
                intro b' m' hm' he
                by_cases hb : b' = b
                · rw [if_pos hb] at hm'; cases hm'
                · rw [if_neg hb] at hm'
                  exact hb (hS.inj b' b m' mm hm' hmm he)
              obtain ⟨s2, e2⟩ := sk.pushG (w' := w) (rb := mm.1) (base := mm.2.1) (e := n * s) (o := .cells cs) (hS.sep b mm hmm).1 (hS.sep b mm hmm).2 hMk
                (fun _ _ _ => rfl) (Nat.le_refl _) rfl rfl rfl fun ex =>
                  ⟨rcs, T, fr, o1, by show cs.length ≤ n * s; omega, by show mm.2.1 + n * s ≤ rcs.size; omega, o4, fun i c hc => ⟨(o5 i c hc).1, (o5 i c hc).2.mono (ek.trans ex)⟩⟩
              have hnx : X.nx = cw.next := hS.nx
              refine OpOk.val (v := .slice (some ⟨mm.1, mm.2.1, none⟩) n n) (w' := w) ?_ s2 (ek.trans e2) (.ref (by show (cw.kill b).next < X.nx + 1; rw [hnx]; exact Nat.lt_succ_self _) (Nat.le_refl _) fun m' hm' => ?_)
              · rw [hv]
                have hss := szOf_run (P := P) (w := w) hsz
                simp only [Option.map_none, Instr.sliceAt, Sem.run_bind, run_underlying hu, Result.andThen_ok, Instr.sureAddr, Sem.run_pure, Instr.sliceBounds, hss]
                by_cases hn0 : n = 0
                · subst hn0; simp
                · rw [if_neg hn0, add_none]; simp
              · have : (if cw.next = X.nx then some (mm.1, mm.2.1, n * s) else if cw.next = b then none else X.M cw.next) = some m' := hm'
                rw [if_pos hnx.symm] at this
                cases this
                exact ⟨rfl, by show 0 + n * s = n * s; omega⟩
            · cases hs
          · cases hs
        · cases hs
    · cases hr
  | fieldAddr t x i =>
    simp only [resOp] at hr
    split at hr
    · rename_i fs hu
      simp only [Option.bind_eq_some_iff] at hr
      obtain ⟨f, hf, x', hx, hr⟩ := hr
      split at hr
      · rename_i n hn
        cases hr
        simp only [stepOp] at hs
        have hrun : ∀ r o, (Instr.fieldAt t (.pointer (some ⟨r, o, none⟩)) i).run P w = .ok (.pointer (some ⟨r, o + f.offset, none⟩)) w := by
          intro r o
          simp [Instr.fieldAt, run_underlying hu, hf, Instr.sureAddr, fieldPlace_run hn]
        split at hs
        · rename_i b o he
          cases hs
          have hvx := rx_vr hx he hE
          show OpOk fid N w0 X P (do pure (.value (← Instr.fieldAt t (a.eval x) i))) w _ _
          generalize a.eval x = v at hvx ⊢
          cases hvx with
          | @ptr _ _ ad g1 g2 =>
            refine OpOk.pur (v := .pointer (some (ad.add f.offset))) hS ?_ (.ptr g1 fun m hm => ?_)
            · have hz := szOf_run (P := P) (w := w) hn
              simp [Instr.fieldAt, run_underlying hu, hf, Instr.sureAddr, fieldPlace, hz]
            · rw [g2 m hm, add_none, Nat.add_assoc]
        · rename_i cs o he
          cases hs
          have hvx := rx_vr hx he hE
          obtain ⟨r, oo, hv, k3, k4⟩ := hvx.row_inv
          refine OpOk.pur hS (by rw [hv]; exact hrun _ _) ?_
          rw [Nat.add_assoc]
          exact k3.row k4 _
        · cases hs
      · cases hr
    · cases hr
  | field t x i =>
    simp only [resOp] at hr
    split at hr
    · rename_i fs hu
      simp only [Option.bind_eq_some_iff] at hr
      obtain ⟨f, hf, x', hx, q, hq, hr⟩ := hr
      cases hr
      simp only [stepOp] at hs
      split at hs
      · rename_i cs he
        obtain ⟨h1, rfl⟩ := pu_some hs
        exact fld_ok hS hu hf hq (rx_vr hx he hE) h1
      · cases hs
    · cases hr
  | indexAddr t x i =>
    simp only [resOp, Option.bind_eq_some_iff] at hr
    obtain ⟨x', hx, i', hi, hr⟩ := hr
    split at hr
    · rename_i e hu
      simp only [Option.bind_eq_some_iff] at hr
      obtain ⟨n, hn, hr⟩ := hr
      cases hr
      simp only [stepOp, Option.bind_eq_some_iff] at hs
      obtain ⟨iv, hiv, ii, hii, hs⟩ := hs
      obtain ⟨ki, hki⟩ := intV_inv hii (rx_vr hi hiv hE)
      have hrun : ∀ r o len cap, 0 ≤ ii → ii < (len : Nat) → (Instr.indexAt t (.slice (some ⟨r, o, none⟩) len cap) (.int ki ii)).run P w = .ok (.pointer (some ⟨r, o + ii.toNat * n, none⟩)) w := by
        intro r o len cap h0 h1
        have hss := szOf_run (P := P) (w := w) hn
        simp only [Instr.indexAt, asIntOf, Sem.run_bind, Sem.run_pure, Result.andThen_ok, run_underlying hu]
        simp [h0, h1, hss, add_none]
      split at hs
      · rename_i cs k clip he
        split at hs
        · rename_i hb
          cases hs
          obtain ⟨r, o, cap, hv, k1, k2, k3, k4⟩ := (rx_vr hx he hE).vec_inv
          exact OpOk.pur hS (by rw [hv, hki]; exact hrun r o k cap hb.1 hb.2) (k3.row k4 _)
        · cases hs
      · rename_i b off k s he
        split at hs
        · rename_i hb
          obtain ⟨b1, b2, rfl⟩ := hb
          cases hs
          have hvx := rx_vr hx he hE
          show OpOk fid N w0 X P (do pure (.value (← Instr.indexAt t (a.eval x) (a.eval i)))) w _ _
          rw [hki]
          generalize a.eval x = v at hvx ⊢
          cases hvx with
          | @ref _ _ _ _ cap ad g1 g2 g3 =>
            refine OpOk.pur (v := .pointer (some (ad.add (ii.toNat * s)))) hS ?_ (.ptr g1 fun m hm => ?_)
            · have hss := szOf_run (P := P) (w := w) hn
              simp only [Instr.indexAt, asIntOf, Sem.run_bind, Sem.run_pure, Result.andThen_ok, run_underlying hu]
              simp [b1, b2, hss]
            · rw [(g3 m hm).1, add_none, Nat.add_assoc]
        · cases hs
      · cases hs
    · rename_i len e hu
      simp only [Option.bind_eq_some_iff] at hr
      obtain ⟨n, hn, hr⟩ := hr
      cases hr
      simp only [stepOp, Option.bind_eq_some_iff] at hs
      obtain ⟨iv, hiv, ii, hii, hs⟩ := hs
      obtain ⟨ki, hki⟩ := intV_inv hii (rx_vr hi hiv hE)
      have hrun : ∀ ad, 0 ≤ ii → ii < (len : Nat) → (Instr.indexAt t (.pointer (some ad)) (.int ki ii)).run P w = .ok (.pointer (some (ad.add (ii.toNat * n)))) w := by
        intro ad h0 h1
        have hss := szOf_run (P := P) (w := w) hn
        simp only [Instr.indexAt, asIntOf, Sem.run_bind, Sem.run_pure, Result.andThen_ok, run_underlying hu, Instr.sureAddr]
        simp [h0, h1, hss]
      split at hs
      · rename_i b off he
        split at hs
        · rename_i hb
          cases hs
          have hvx := rx_vr hx he hE
          show OpOk fid N w0 X P (do pure (.value (← Instr.indexAt t (a.eval x) (a.eval i)))) w _ _
          rw [hki]
          generalize a.eval x = v at hvx ⊢
          cases hvx with
          | @ptr _ _ ad g1 g2 =>
            refine OpOk.pur hS (hrun ad hb.1 hb.2) (.ptr g1 fun m hm => ?_)
            rw [g2 m hm, add_none, Nat.add_assoc]
        · cases hs
      · rename_i cs off he
        split at hs
        · rename_i hb
          cases hs
          obtain ⟨r, o, hv, k3, k4⟩ := (rx_vr hx he hE).row_inv
          refine OpOk.pur hS (by rw [hv, hki]; exact hrun _ hb.1 hb.2) ?_
          rw [add_none, Nat.add_assoc]
          exact k3.row k4 _
        · cases hs
      · cases hs
    · cases hr
  | index t x i =>
    simp only [resOp, Option.bind_eq_some_iff] at hr
    obtain ⟨x', hx, i', hi, hr⟩ := hr
    split at hr
    · rename_i hu
      cases hr
      simp only [stepOp, Option.bind_eq_some_iff] at hs
      obtain ⟨iv, hiv, ii, hii, hs⟩ := hs
      obtain ⟨ki, hki⟩ := intV_inv hii (rx_vr hi hiv hE)
      split at hs
      · rename_i l he
        split at hs
        · rename_i h0
          simp only [Option.bind_eq_some_iff] at hs
          obtain ⟨b, hb, hs⟩ := hs
          cases hs
          refine OpOk.pur (v := .int .u8 b.toNat) hS ?_ (.int _ _)
          have hlt : ii.toNat < l.length := (List.getElem?_eq_some_iff.1 hb).1
          have hbs : (ByteArray.mk l.toArray)[ii.toNat]? = some b := by
            have hlt' : ii.toNat < (ByteArray.mk l.toArray).size := by simpa [ByteArray.size] using hlt
            rw [getElem?_pos (ByteArray.mk l.toArray) ii.toNat hlt']
            rw [List.getElem?_eq_getElem hlt] at hb
            rw [← hb]
            rfl
          rw [(rx_vr hx he hE).str_inv, hki]
          simp only [Instr.index, asIntOf, Sem.run_bind, Sem.run_pure, Result.andThen_ok, run_underlying hu, h0, if_true, hbs]
        · cases hs
      · cases hs
    · rename_i len e hu
      simp only [Option.bind_eq_some_iff] at hr
      obtain ⟨q, hq, hr⟩ := hr
      cases hr
      simp only [stepOp, Option.bind_eq_some_iff] at hs
      obtain ⟨iv, hiv, ii, hii, hs⟩ := hs
      split at hs
      · rename_i cs he
        split at hs
        · rename_i hb
          obtain ⟨h1, rfl⟩ := pu_some hs
          exact idx_ok hS hu hq (rx_vr hx he hE) (rx_vr hi hiv hE) hii hb.1 hb.2 h1
        · cases hs
      · cases hs
    · cases hr
  | lookup t x k ok =>
    simp only [resOp, Option.bind_eq_some_iff] at hr
    obtain ⟨x', hx, k', hk, hr⟩ := hr
    split at hr
    · rename_i kt e hu
      simp only [Option.bind_eq_some_iff] at hr
      obtain ⟨ks, hks, zv, ⟨i, hi, hzv⟩, z, hz, hr⟩ := hr
      cases hr
      simp only [stepOp, Option.bind_eq_some_iff] at hs
      obtain ⟨xv, hxv, kv, hkv, hs⟩ := hs
      split at hs
      · rename_i hik
        simp only [Option.bind_eq_some_iff] at hs
        obtain ⟨r, hr, hs⟩ := hs
        have hh : (xv = .nilm ∧ r = none) ∨ ∃ b es clock, xv = .map b ∧ cw.get b = some (.map es clock) ∧ findE kv es 0 = some r := by
          split at hr
          · cases hr; exact .inl ⟨rfl, rfl⟩
          · split at hr
            · rename_i es clock hg; exact .inr ⟨_, es, clock, rfl, hg, hr⟩
            · cases hr
          · cases hr
        have := look_ok (P := P) (ok := ok) hS hu hks hi hzv hz (rx_vr hx hxv hE) (rx_vr hk hkv hE) hik hh
        cases r with
        | none => cases hs; exact this
        | some q => obtain ⟨i, v', b'⟩ := q; cases hs; exact this
      · cases hs
    · cases hr
  | mapUpdate t m k v =>
    simp only [resOp, Option.bind_eq_some_iff] at hr
    obtain ⟨m', hm, k', hk, v', hv, hr⟩ := hr
    split at hr
    · rename_i kt e hu
      simp only [Option.bind_eq_some_iff] at hr
      obtain ⟨ks, hks, hr⟩ := hr
      cases hr
      simp only [stepOp, Option.bind_eq_some_iff] at hs
      obtain ⟨mv, hmv, kv, hkv, vv, hvv, hs⟩ := hs
      split at hs
      · rename_i hik
        split at hs
        · split at hs
          · rename_i es clock hg
            simp only [Option.bind_eq_some_iff] at hs
            obtain ⟨r, hf, hs⟩ := hs
            have := mupd_ok (P := P) hS hu hks (rx_vr hm hmv hE) (rx_vr hk hkv hE) (rx_vr hv hvv hE) hik hg hf
            cases r with
            | none => cases hs; exact this
            | some q => obtain ⟨i, v', b'⟩ := q; cases hs; exact this
          · cases hs
        · cases hs
      · cases hs
    · cases hr
  | insert t m k v =>
    simp only [resOp, Option.bind_eq_some_iff] at hr
    obtain ⟨m', hm, k', hk, v', hv, hr⟩ := hr
    split at hr
    · rename_i kt e hu
      simp only [Option.bind_eq_some_iff] at hr
      obtain ⟨ks, hks, hr⟩ := hr
      cases hr
      simp only [stepOp, Option.bind_eq_some_iff] at hs
      obtain ⟨mv, hmv, kv, hkv, vv, hvv, hs⟩ := hs
      split at hs
      · rename_i hik
        split at hs
        · split at hs
          · rename_i es clock hg
            simp only [Option.bind_eq_some_iff] at hs
            obtain ⟨r, hf, hs⟩ := hs
            have := mupd_ok (P := P) hS hu hks (rx_vr hm hmv hE) (rx_vr hk hkv hE) (rx_vr hv hvv hE) hik hg hf
            cases r with
            | none => cases hs; exact this
            | some q => obtain ⟨i, v', b'⟩ := q; cases hs; exact this
          · cases hs
        · cases hs
      · cases hs
    · cases hr
  | mapEntry t m k =>
    simp only [resOp, Option.bind_eq_some_iff] at hr
    obtain ⟨m', hm, k', hk, hr⟩ := hr
    split at hr
    · rename_i kt e hu
      simp only [Option.bind_eq_some_iff] at hr
      obtain ⟨ks, hks, zv, ⟨i, hi, hzv⟩, z, hz, hr⟩ := hr
      cases hr
      simp only [stepOp, Option.bind_eq_some_iff] at hs
      obtain ⟨mv, hmv, kv, hkv, hs⟩ := hs
      split at hs
      · rename_i hik
        split at hs
        · split at hs
          · rename_i es clock hg
            simp only [Option.bind_eq_some_iff] at hs
            obtain ⟨r, hf, hs⟩ := hs
            have := ment_ok (P := P) hS hu hks hi hzv hz (rx_vr hm hmv hE) (rx_vr hk hkv hE) hik hg hf
            cases r with
            | none => cases hs; exact this
            | some q => obtain ⟨i, v', b'⟩ := q; cases hs; exact this
          · cases hs
        · cases hs
      · cases hs
    · cases hr
  | entryStore t m s v =>
    simp only [resOp, Option.bind_eq_some_iff] at hr
    obtain ⟨m', hm, s', hsx, v', hv, hr⟩ := hr
    cases hr
    simp only [stepOp, Option.bind_eq_some_iff] at hs
    obtain ⟨mv, hmv, sv, hsv, vv, hvv, si, hsi, hs⟩ := hs
    split at hs
    · split at hs
      · rename_i es clock hg
        split at hs
        · rename_i i hf
          cases hs
          exact mset_ok hS (rx_vr hm hmv hE) (rx_vr hsx hsv hE) hsi (rx_vr hv hvv hE) hg hf
        · cases hs
      · cases hs
    · cases hs
  | extract x i =>
    simp only [resOp, Option.bind_eq_some_iff] at hr
    obtain ⟨x', hx, hr⟩ := hr
    cases hr
    simp only [stepOp] at hs
    split at hs
    · rename_i vs he
      obtain ⟨h1, rfl⟩ := pu_some hs
      have hvx := rx_vr hx he hE
      show OpOk fid N w0 X P (do pure (.value (← Instr.extract (a.eval x) i))) w _ _
      generalize a.eval x = v at hvx ⊢
      cases hvx with
      | @tup _ rvs g1 g2 =>
        have hlt : i < rvs.size := by have := (List.getElem?_eq_some_iff.1 h1).1; omega
        refine OpOk.pur (v := rvs.getD i undef) hS ?_ (g2 i c h1)
        simp [Instr.extract, hlt]
    · cases hs
  | call cc =>
    obtain ⟨callee, args, argTypes⟩ := cc
    cases callee with
    | builtin b =>
      simp only [resOp] at hr
      exact op_builtin rfl hr hE hS hs
    | value f =>
      cases f with
      | func f =>
        simp only [resOp, Option.bind_eq_some_iff] at hr
        obtain ⟨g, hg, xs, hxs, hr⟩ := hr
        cases hr
        simp [stepOp] at hs
      | _ =>
        simp only [resOp, Option.bind_eq_some_iff] at hr
        obtain ⟨g, hg, xs, hxs, hr⟩ := hr
        cases hr
        simp [stepOp] at hs
    | invoke r m => simp only [resOp] at hr; cases hr
  | _ => simp only [resOp] at hr; cases hr

end Go.Cs
