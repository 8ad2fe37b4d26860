/- PrioBack: for every input the law answers true; each argument reads afterwards as before. Conditions: those of the given row and card alone (the listed package variables as the program's text lays them). -/
import Derived.Test.YtopnfbffcggnmaaDoorSeatAwake
import Derived.Test.YtopnfbffcggnmaaDoorCsDoor
import Derived.Test.YtopnfbffcggnmaaDoorRows
import Derived.Test.YtopnfbffcggnmaaDoorTie
import Derived.Test.YtopnfbffcggnmaaDoorCards
import Derived.Shelf.Vars
import Derived.Lay
import Derived.LaidOnce
import Derived.SevenTiedAt
namespace Go.Proofs.YtopnfbffcggnmaaDoor
open Go Go.Cs Go.RowKit Go.ChangeShapes Go.WideShapes
set_option maxRecDepth 100000

theorem lawG (W : World) (h : W.ShapedOpen Tryd.prog) : GP W.heap.size W := by
  have hm := cell_of_shapedOpen_int (g := 1) (k := .i64) (t := 3) (zero := #[.int .i64 0]) h (of_decide_eq_true (by kernel_rfl)) (by kernel_rfl) (by kernel_rfl) (by kernel_rfl) (by kernel_rfl) (by kernel_rfl)
  refine ⟨?_, hm⟩
  obtain ⟨m, hm⟩ := hm
  unfold World.cell? at hm
  cases hh : W.heap[1]? with
  | none => simp [hh] at hm
  | some _ => exact (Array.getElem?_eq_some_iff.1 hh).1

theorem back_args {H : Type} {enc : TypeId × Value → H} (W : World) (base : Nat) (args : Array Value) (ds : List (DataW H)) (ps : List MemPlace)
    (hval : ∀ (j : Nat) t v, Tryd.f4.params[j]? = some t → args[j]? = some v → Value.okWide Tryd.prog W .any base t v) (h : DataW.TrodAll enc Tryd.prog W 0 (fun _ => true) true Tryd.f4.params.toList args.toList ds ps) :
    ∃ cargs, wpF (Tab.K tA) f_footmanlaw38_PrioBack cargs cw0 (fun v _ => v = .bool true) ∧ ArgsR fidP (X0 W) W cargs args := by
  rw [Tryd.params4] at h hval
  obtain ⟨v1, v2, v3, d1, d2, d3, p1, p2, p3, rfl, rfl, rfl, h1, h2, h3⟩ := trodAll_three h
  obtain ⟨c1, k1, r1⟩ := read_val (fid := fidP) (X := X0 W) (T := .struct [.int .i64, .bool]) (d := 3) (by kernel_rfl) (hval 0 24 v1 rfl rfl) h1
  obtain ⟨c2, k2, r2⟩ := read_val (fid := fidP) (X := X0 W) (T := .struct [.int .i64, .bool]) (d := 3) (by kernel_rfl) (hval 1 24 v2 rfl rfl) h2
  obtain ⟨c3, k3, r3⟩ := read_val (fid := fidP) (X := X0 W) (T := .str) (d := 3) (by kernel_rfl) (hval 2 9 v3 rfl rfl) h3
  simp only [Ty.has, hasAll] at k1 k2 k3
  obtain ⟨_, _, rfl, ⟨u, rfl, _⟩, _, _, rfl, ⟨st, rfl⟩, rfl⟩ := k1
  obtain ⟨_, _, rfl, ⟨v, rfl, _⟩, _, _, rfl, ⟨sv, rfl⟩, rfl⟩ := k2
  obtain ⟨more, rfl, _⟩ := k3
  refine ⟨[.agg [.int .i64 u, .bool st], .agg [.int .i64 v, .bool sv], .str more], back_run rfl rfl rfl rfl rfl rfl u v st sv more, rfl, fun i c hc => ?_⟩
  match i with
  | 0 => cases hc; exact r1
  | 1 => cases hc; exact r2
  | 2 => cases hc; exact r3
  | i + 3 => simp at hc

theorem own : ownKnob Tryd.prog.godebug = none := by kernel_rfl

theorem back_lifted (os : Os) (started : os.Started) (H : Type) (enc : TypeId × Value → H) :
    ReturnsInHanded {} Tryd.checked os 4 .any (fun w args => (Rows.prioBackSpec.pre enc Tryd.prog Tryd.f4 [] false w args ∧ laidMetH Tryd.prog Rows.prioBackRow.laid w) ∧ sizedMet enc Tryd.prog Tryd.f4 (OpenSpec.ofChange Rows.prioBackSpec) false w args)
      (Rows.prioBackSpec.post enc Tryd.prog Tryd.f4 false true false false) := by
  refine law_lifted (C := Tryd.checked) (fid := fidP) (G := GP) (tb := 4) own started (by kernel_rfl) Tryd.func4
    (ChangeSpec.witness_shaped (enc := enc) (C := Tryd.checked) (os := os) (X := fun w _ => laidMetH Tryd.prog Rows.prioBackRow.laid w) false (World.laidAll Tryd.prog os Rows.prioBackRow.laid)
      #[.agg #[.int .i64 0, .bool false], .agg #[.int .i64 0, .bool false], .string ⟨#[]⟩] 8 (World.laidAll_os _ _ _)
      (World.shaped_of_ZipB (by kernel_rfl) (by kernel_rfl)) (by kernel_rfl) (by kernel_rfl) (by kernel_rfl)
      (by rw [MakeChecks.laidMetH_plain _ _ _ (by kernel_rfl)]; exact laidMet_laidAll _ (by kernel_rfl) (by kernel_rfl)))
    back_sound (fun W h _ => lawG W h) rfl (by kernel_rfl) Tryd.underlying4 (by kernel_rfl) (by kernel_rfl) ?_ back_args
  intro ds hds
  match ds, hds with
  | [d1, d2, d3], _ => rfl

theorem back_holds : Rows.PrioBackSaid :=
  OpenClaim.holds_of_wide 4 Tryd.f4 rfl rfl rfl rfl rfl rfl rfl ⟨rfl, rfl, rfl, rfl, rfl⟩ rfl rfl rfl rfl rfl (by kernel_rfl) Tryd.func4 (by kernel_rfl)
    (of_decide_eq_true (by kernel_rfl)) (by unfold Func.isWrapper; first | (rw [if_pos (by decide +kernel)]; kernel_rfl) | (rw [if_neg (by decide +kernel)]; exact ⟨rfl, rfl⟩))
    (fun os started H enc _ => back_lifted os started H enc)

theorem backCard_holds : Rows.PrioBackCardSaid :=
  Claim7.holds_tied_plain_at .later [] [.data, .data, .data, .data, .pinned] true (true, "313178bc140797e64a26d4b98ff6bd5b69bd1d5392dc02368684e3a61bb7e7ce") false back_holds (fun _ h => by cases h) (by kernel_rfl) (fun _ h => by cases h) prioBack_row_tie rfl ⟨rfl, rfl⟩ (by kernel_rfl) rfl
    (fun f fn hf hfn => by
      obtain rfl : f = 4 := Option.some.inj ((show Tryd.prog.funcNamed "footman/footmanlaw38.PrioBack" = some 4 by kernel_rfl).symm.trans hf) |>.symm
      obtain rfl : fn = Tryd.f4 := (Option.some.inj (Tryd.func4.symm.trans hfn)).symm
      exact ⟨by kernel_rfl, fun j t ht => by
        rw [Tryd.params4] at ht
        have hm : t ∈ [24, 24, 9] := by simpa using Array.mem_of_getElem? ht
        have hall : ([24, 24, 9].all fun u => !Tryd.prog.wantsStandIn u) = true := by kernel_rfl
        exact (show Tryd.prog.wantsStandIn t = false by simpa using List.all_eq_true.1 hall t hm)⟩)
    (by kernel_rfl)
end Go.Proofs.YtopnfbffcggnmaaDoor
