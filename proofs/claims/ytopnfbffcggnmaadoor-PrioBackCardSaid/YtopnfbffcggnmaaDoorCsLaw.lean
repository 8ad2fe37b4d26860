/- From a sound contract to a law: the call answers true, and leaves all that was there as it was. -/
import Derived.Test.YtopnfbffcggnmaaDoorCsFn
import Derived.Carry
import Derived.ChangeSame
import Derived.JoinedOf
namespace Go.Cs
open Go.RowKit Go.ChangeShapes Go.WideShapes
variable {P : Program} {fid : FuncId → Option Nat} {G : Nat → World → Prop}

/-- No canonical block yet. -/
def cw0 : CW := ⟨fun _ => none, 0⟩
/-- All that is there is not written. -/
def X0 (W : World) : Cx := ⟨fun _ => none, fun r _ => r < W.heap.size, 0⟩

theorem sim0 (W : World) : Sim fid W.heap.size W (X0 W) cw0 W where
  nx := rfl
  dom := by intro b m h; cases h
  blk := by intro b o h; cases h
  inj := by intro b b' m m' h; cases h
  sep := by intro b m h; cases h
  old := fun r o h => h
  lt := fun r o h => h
  below := Below.refl _ _
  room := Nat.le_refl _

theorem law_calls {f : FuncId} {C : Ct} {W : World} {cargs : List CV} {rargs : Array Value} (hs : Sound P fid G f C) (hG : G W.heap.size W) (hc : C cargs cw0 fun v _ => v = .bool true) (hA : ArgsR fid (X0 W) W cargs rargs) :
    Calls P f rargs W fun e w' => e = .returned (.bool true) ∧ Below W.heap.size W w' := by
  refine (hs.calls cargs cw0 _ hc W.heap.size W (X0 W) W rargs hG (sim0 W) hA).mono ?_
  rintro e w' ⟨c, v, cw', X', rfl, rfl, s, _, hv⟩
  exact ⟨by rw [hv.bool_inv], s.below⟩

theorem below_trodAll {H : Type} {enc : TypeId × Value → H} (hl : laidOutB P = true) {W W' : World} (hb : Below W.heap.size W W') :
    ∀ {ts : List TypeId} {vs : List Value} {ds : List (DataW H)} {ps : List MemPlace}, (ts.all fun t => P.readableRec t && decide (t < P.types.size)) = true → (∀ x ∈ ps, x.block < W.heap.size) →
      DataW.TrodAll enc P W 0 (fun _ => true) true ts vs ds ps → DataW.TrodAll enc P W' 0 (fun b => decide (b < W.heap.size)) true ts vs ds ps
  | [], [], [], _, _, _, h => h
  | t :: ts, v :: vs, d :: ds, ps, ht, hlt, h => by
    obtain ⟨p, q, h1, h2, rfl⟩ := h
    simp only [List.all_cons, Bool.and_eq_true, decide_eq_true_eq] at ht
    exact ⟨p, q, Below.trod hl ht.1.1 ht.1.2 h1 hb fun x hx => hlt x (List.mem_append_left _ hx),
      below_trodAll hl hb ht.2 (fun x hx => hlt x (List.mem_append_right _ hx)) h2, rfl⟩
  | [], [], _ :: _, _, _, _, h => h.elim
  | [], _ :: _, _, _, _, _, h => by cases h
  | _ :: _, [], _, _, _, _, h => by cases h
  | _ :: _, _ :: _, [], _, _, _, h => by cases h

/-- The law's own promise. -/
theorem law_post {H : Type} {enc : TypeId × Value → H} {f : Func} {s : ChangeSpec} {apart : Bool} {W W' : World} {args : Array Value} {ds gs : List (DataW H)} {before : List MemPlace} {tb : TypeId}
    (hvars : s.vars = []) (hfn : s.fn H (ds ++ []) = { results := [.lit (.bool true)], args := ds }) (hres : f.resultTypes = #[tb]) (htb : P.underlying tb = some .bool) (hl : laidOutB P = true)
    (hpar : (f.params.toList.all fun t => P.readableRec t && decide (t < P.types.size)) = true) (hW : DataW.Whole enc P f.params.toList s.vars apart W args.toList ds gs before) (hb : Below W.heap.size W W') :
    s.post enc P f apart true false false W args (.bool true) W' := by
  have hW' := hW
  obtain ⟨p, q, hA, hV, rfl, hz, hn⟩ := hW
  rw [hvars] at hV
  obtain ⟨rfl, rfl⟩ : gs = [] ∧ q = [] := by
    cases gs with
    | nil => exact ⟨rfl, hV⟩
    | cons g r => exact absurd hV (by intro h; cases h)
  refine ⟨ds, [], p ++ [], [], p, [], hW', ?_, ?_, ?_, hb.frame _, fun h => by cases h⟩
  · rw [hfn, hres]; exact trodAll_mk1 (shut_bool htb true)
  · rw [hfn]
    exact below_trodAll hl hb hpar (fun x hx => hW'.lt x (List.mem_append_left _ hx)) hA
  · rw [hvars, hfn]; rfl

end Go.Cs
