/-
  DERIVED. GIVEN WITH THE SEED: THE CARDS: each row of YtopnfbffcggnmaaDoorRows.lean that lists a variable, with what it lists TIED to the program's text (the seventh form; the later family's looks); each row that meets fmt, with fmt's text TOLD by the authors' own Lean function (tested against real Go, not proved from fmt's source: count such statements apart). THE CARD IS WHAT COUNTS. Prove the row's statement (the work); the ties are given (YtopnfbffcggnmaaDoorTie.lean); close each card by the builder's one call (the guide's Derived/Test/ToyasCard.lean, 'card_holds'). Laid BY PROGRAM, IN A SANDBOX (cutbox-door.mjs). By AI agents, Wed Nov 11 2026. No macro, syntax, notation, axiom, sorry.
-/
import Derived.Test.YtopnfbffcggnmaaDoorRows
import GoSem.ClaimSeven
namespace Go.Proofs.YtopnfbffcggnmaaDoor
namespace Rows

/-- THE TIED CARD OF 'footmanlaw38.PrioSorts'. -/
def prioSortsCard : Claim7 := { stood := { row := prioSortsRow, standIns := [], harness := (true, "313178bc140797e64a26d4b98ff6bd5b69bd1d5392dc02368684e3a61bb7e7ce"), looks := false }, kinds := [], alts := [], laidByText := true, laidKinds := [.data, .data, .data, .data, .pinned], laidTests := true, laidLooks := .later }
def PrioSortsCardSaid : Prop := Claim7.holds Tryd.pinned (.plain (OpenSpec.ofChange prioSortsSpec)) prioSortsCard

/-- THE TIED CARD OF 'footmanlaw38.PrioBack'. -/
def prioBackCard : Claim7 := { stood := { row := prioBackRow, standIns := [], harness := (true, "313178bc140797e64a26d4b98ff6bd5b69bd1d5392dc02368684e3a61bb7e7ce"), looks := false }, kinds := [], alts := [], laidByText := true, laidKinds := [.data, .data, .data, .data, .pinned], laidTests := true, laidLooks := .later }
def PrioBackCardSaid : Prop := Claim7.holds Tryd.pinned (.plain (OpenSpec.ofChange prioBackSpec)) prioBackCard

/-- THE SECOND FORM's CARD OF 'footmanlaw38.PrioSorts'. -/
def prioSortsUptoCard : Claim7 := { stood := { row := prioSortsUptoRow, standIns := [], harness := (true, "313178bc140797e64a26d4b98ff6bd5b69bd1d5392dc02368684e3a61bb7e7ce"), looks := false }, kinds := [], alts := [], laidByText := true, laidKinds := [.data, .data, .data, .data, .pinned], laidTests := true, laidLooks := .later }
def PrioSortsUptoCardSaid : Prop := Claim7.holds Tryd.pinned (.plain (OpenSpec.upto prioSortsSpec)) prioSortsUptoCard

/-- THE SECOND FORM's CARD OF 'footmanlaw38.PrioBack'. -/
def prioBackUptoCard : Claim7 := { stood := { row := prioBackUptoRow, standIns := [], harness := (true, "313178bc140797e64a26d4b98ff6bd5b69bd1d5392dc02368684e3a61bb7e7ce"), looks := false }, kinds := [], alts := [], laidByText := true, laidKinds := [.data, .data, .data, .data, .pinned], laidTests := true, laidLooks := .later }
def PrioBackUptoCardSaid : Prop := Claim7.holds Tryd.pinned (.plain (OpenSpec.upto prioBackSpec)) prioBackUptoCard
end Rows
end Go.Proofs.YtopnfbffcggnmaaDoor
