/-
  DERIVED. GIVEN WITH THE SEED: THE CARDS: each row of YtamlaeocojcgdaaDoorRows.lean that lists a variable, with what it lists TIED to the program's text (the seventh form; the later family's looks); each row that meets fmt, with fmt's text TOLD by the authors' own Lean function (tested against real Go, not proved from fmt's source: count such statements apart). THE CARD IS WHAT COUNTS. Prove the row's statement (the work); the ties are given (YtamlaeocojcgdaaDoorTie.lean); close each card by the builder's one call (the guide's Derived/Test/ToyasCard.lean, 'card_holds'). Laid BY PROGRAM, IN A SANDBOX (cutbox-door.mjs). By AI agents, Wed Nov 11 2026. No macro, syntax, notation, axiom, sorry.
-/
import Derived.Test.YtamlaeocojcgdaaDoorRows
import GoSem.ClaimSeven
namespace Go.Proofs.YtamlaeocojcgdaaDoor
namespace Rows

/-- THE TIED CARD OF 'viewlaw.QuerySays'. -/
def querySaysCard : Claim7 := { stood := { row := querySaysRow, standIns := [], harness := (true, "c806a3d7c3ab5458db7bd6db6044bf919f7272a370b7288bf4a7f91460234650"), looks := false }, kinds := [], alts := [], laidByText := true, laidKinds := [.data, .data, .data, .widerDeep], laidTests := true, laidLooks := .later }
def QuerySaysCardSaid : Prop := Claim7.holds Tryd.pinned (.plain (OpenSpec.ofChange querySaysSpec)) querySaysCard

/-- THE TIED CARD OF 'viewlaw.QueryReads'. -/
def queryReadsCard : Claim7 := { stood := { row := queryReadsRow, standIns := [], harness := (true, "c806a3d7c3ab5458db7bd6db6044bf919f7272a370b7288bf4a7f91460234650"), looks := false }, kinds := [], alts := [], laidByText := true, laidKinds := [.data, .widerDeep, .pinned], laidTests := true, laidLooks := .later }
def QueryReadsCardSaid : Prop := Claim7.holds Tryd.pinned (.plain (OpenSpec.ofChange queryReadsSpec)) queryReadsCard

/-- THE TIED CARD OF 'viewkeep.QueryBack'. -/
def queryBackCard : Claim7 := { stood := { row := queryBackRow, standIns := [], harness := (true, "c806a3d7c3ab5458db7bd6db6044bf919f7272a370b7288bf4a7f91460234650"), looks := false }, kinds := [], alts := [], laidByText := true, laidKinds := [.data, .data, .data, .data, .pinned], laidTests := true, laidLooks := .later }
def QueryBackCardSaid : Prop := Claim7.holds Tryd.pinned (.plain (OpenSpec.ofChange queryBackSpec)) queryBackCard

/-- THE SECOND FORM's CARD OF 'viewlaw.QuerySays'. -/
def querySaysUptoCard : Claim7 := { stood := { row := querySaysUptoRow, standIns := [], harness := (true, "c806a3d7c3ab5458db7bd6db6044bf919f7272a370b7288bf4a7f91460234650"), looks := false }, kinds := [], alts := [], laidByText := true, laidKinds := [.data, .data, .data, .widerDeep], laidTests := true, laidLooks := .later }
def QuerySaysUptoCardSaid : Prop := Claim7.holds Tryd.pinned (.plain (OpenSpec.upto querySaysSpec)) querySaysUptoCard

/-- THE SECOND FORM's CARD OF 'viewlaw.QueryReads'. -/
def queryReadsUptoCard : Claim7 := { stood := { row := queryReadsUptoRow, standIns := [], harness := (true, "c806a3d7c3ab5458db7bd6db6044bf919f7272a370b7288bf4a7f91460234650"), looks := false }, kinds := [], alts := [], laidByText := true, laidKinds := [.data, .widerDeep, .pinned], laidTests := true, laidLooks := .later }
def QueryReadsUptoCardSaid : Prop := Claim7.holds Tryd.pinned (.plain (OpenSpec.upto queryReadsSpec)) queryReadsUptoCard

/-- THE SECOND FORM's CARD OF 'viewkeep.QueryBack'. -/
def queryBackUptoCard : Claim7 := { stood := { row := queryBackUptoRow, standIns := [], harness := (true, "c806a3d7c3ab5458db7bd6db6044bf919f7272a370b7288bf4a7f91460234650"), looks := false }, kinds := [], alts := [], laidByText := true, laidKinds := [.data, .data, .data, .data, .pinned], laidTests := true, laidLooks := .later }
def QueryBackUptoCardSaid : Prop := Claim7.holds Tryd.pinned (.plain (OpenSpec.upto queryBackSpec)) queryBackUptoCard
end Rows
end Go.Proofs.YtamlaeocojcgdaaDoor
