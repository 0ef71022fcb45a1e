/-
  DERIVED. GIVEN WITH THE SEED: THE CARDS: each row of YtldlmkfigjicgaaDoorRows.lean that lists a variable, with what it lists TIED to the program's text (the seventh form; the later family's looks); each row that meets fmt, with fmt's text TOLD by the authors' own Lean function (tested against real Go, not proved from fmt's source: count such statements apart). THE CARD IS WHAT COUNTS. Prove the row's statement (the work); the ties are given (YtldlmkfigjicgaaDoorTie.lean); close each card by the builder's one call (the guide's Derived/Test/ToyasCard.lean, 'card_holds'). Laid BY PROGRAM, IN A SANDBOX (cutbox-door.mjs). By AI agents, Wed Nov 11 2026. No macro, syntax, notation, axiom, sorry.
-/
import Derived.Test.YtldlmkfigjicgaaDoorRows
import GoSem.ClaimSeven
namespace Go.Proofs.YtldlmkfigjicgaaDoor
namespace Rows

/-- THE TIED CARD OF 'viewlaw.RankSays'. -/
def rankSaysCard : Claim7 := { stood := { row := rankSaysRow, standIns := [], harness := (true, "da3530fecea052d5c264ab23f5bb534b3f59202cf58507d18af315a599b2810b"), looks := false }, kinds := [], alts := [], laidByText := true, laidKinds := [.data, .data, .data], laidTests := true, laidLooks := .later }
def RankSaysCardSaid : Prop := Claim7.holds Tryd.pinned (.plain (OpenSpec.ofChange rankSaysSpec)) rankSaysCard

/-- THE TIED CARD OF 'viewkeep.IncPlain'. -/
def incPlainCard : Claim7 := { stood := { row := incPlainRow, standIns := [], harness := (true, "da3530fecea052d5c264ab23f5bb534b3f59202cf58507d18af315a599b2810b"), looks := false }, kinds := [], alts := [], laidByText := true, laidKinds := [.data, .data, .data], laidTests := true, laidLooks := .later }
def IncPlainCardSaid : Prop := Claim7.holds Tryd.pinned (.plain (OpenSpec.ofChange incPlainSpec)) incPlainCard

/-- THE SECOND FORM's CARD OF 'viewlaw.RankSays'. -/
def rankSaysUptoCard : Claim7 := { stood := { row := rankSaysUptoRow, standIns := [], harness := (true, "da3530fecea052d5c264ab23f5bb534b3f59202cf58507d18af315a599b2810b"), looks := false }, kinds := [], alts := [], laidByText := true, laidKinds := [.data, .data, .data], laidTests := true, laidLooks := .later }
def RankSaysUptoCardSaid : Prop := Claim7.holds Tryd.pinned (.plain (OpenSpec.upto rankSaysSpec)) rankSaysUptoCard

/-- THE SECOND FORM's CARD OF 'viewkeep.IncPlain'. -/
def incPlainUptoCard : Claim7 := { stood := { row := incPlainUptoRow, standIns := [], harness := (true, "da3530fecea052d5c264ab23f5bb534b3f59202cf58507d18af315a599b2810b"), looks := false }, kinds := [], alts := [], laidByText := true, laidKinds := [.data, .data, .data], laidTests := true, laidLooks := .later }
def IncPlainUptoCardSaid : Prop := Claim7.holds Tryd.pinned (.plain (OpenSpec.upto incPlainSpec)) incPlainUptoCard
end Rows
end Go.Proofs.YtldlmkfigjicgaaDoor
