/-
  DERIVED. GIVEN WITH THE SEED: THE CARDS: each row of YtldlmkfigjicgaaGreatDoorRows.lean that lists a variable, with what it lists TIED to the program's text (the seventh form; the later family's looks); each row that meets fmt, with fmt's text TOLD by the authors' own Lean function (tested against real Go, not proved from fmt's source: count such statements apart). THE CARD IS WHAT COUNTS. Prove the row's statement (the work); the ties are given (YtldlmkfigjicgaaGreatDoorTie.lean); close each card by the builder's one call (the guide's Derived/Test/ToyasCard.lean, 'card_holds'). Laid BY PROGRAM, IN A SANDBOX (cutbox-door.mjs). By AI agents, Wed Nov 11 2026. No macro, syntax, notation, axiom, sorry.
-/
import Derived.Test.YtldlmkfigjicgaaGreatDoorRows
import GoSem.ClaimSeven
namespace Go.Proofs.YtldlmkfigjicgaaGreatDoor
namespace Rows

/-- THE TIED CARD OF 'viewlaw.ZsetSays'. -/
def zsetSaysCard : Claim7 := { stood := { row := zsetSaysRow, standIns := [], harness := (true, "7da3ec949e5744f3d6d2701ebe268ded2a7a91554b2087d3fb6919e7ca88da16"), looks := false }, kinds := [], alts := [], laidByText := true, laidKinds := [.data, .data, .data], laidTests := true, laidLooks := .later }
def ZsetSaysCardSaid : Prop := Claim7.holds Tryz.pinned (.plain (OpenSpec.ofChange zsetSaysSpec)) zsetSaysCard

/-- THE TIED CARD OF 'viewlaw.PlainSays'. -/
def plainSaysCard : Claim7 := { stood := { row := plainSaysRow, standIns := [], harness := (true, "7da3ec949e5744f3d6d2701ebe268ded2a7a91554b2087d3fb6919e7ca88da16"), looks := false }, kinds := [], alts := [], laidByText := true, laidKinds := [.data, .data, .data], laidTests := true, laidLooks := .later }
def PlainSaysCardSaid : Prop := Claim7.holds Tryz.pinned (.plain (OpenSpec.ofChange plainSaysSpec)) plainSaysCard

/-- THE TIED CARD OF 'viewlaw.IncPlays'. -/
def incPlaysCard : Claim7 := { stood := { row := incPlaysRow, standIns := [], harness := (true, "7da3ec949e5744f3d6d2701ebe268ded2a7a91554b2087d3fb6919e7ca88da16"), looks := false }, kinds := [], alts := [], laidByText := true, laidKinds := [.data, .data, .data], laidTests := true, laidLooks := .later }
def IncPlaysCardSaid : Prop := Claim7.holds Tryz.pinned (.plain (OpenSpec.ofChange incPlaysSpec)) incPlaysCard

/-- THE SECOND FORM's CARD OF 'viewlaw.ZsetSays'. -/
def zsetSaysUptoCard : Claim7 := { stood := { row := zsetSaysUptoRow, standIns := [], harness := (true, "7da3ec949e5744f3d6d2701ebe268ded2a7a91554b2087d3fb6919e7ca88da16"), looks := false }, kinds := [], alts := [], laidByText := true, laidKinds := [.data, .data, .data], laidTests := true, laidLooks := .later }
def ZsetSaysUptoCardSaid : Prop := Claim7.holds Tryz.pinned (.plain (OpenSpec.upto zsetSaysSpec)) zsetSaysUptoCard

/-- THE SECOND FORM's CARD OF 'viewlaw.PlainSays'. -/
def plainSaysUptoCard : Claim7 := { stood := { row := plainSaysUptoRow, standIns := [], harness := (true, "7da3ec949e5744f3d6d2701ebe268ded2a7a91554b2087d3fb6919e7ca88da16"), looks := false }, kinds := [], alts := [], laidByText := true, laidKinds := [.data, .data, .data], laidTests := true, laidLooks := .later }
def PlainSaysUptoCardSaid : Prop := Claim7.holds Tryz.pinned (.plain (OpenSpec.upto plainSaysSpec)) plainSaysUptoCard

/-- THE SECOND FORM's CARD OF 'viewlaw.IncPlays'. -/
def incPlaysUptoCard : Claim7 := { stood := { row := incPlaysUptoRow, standIns := [], harness := (true, "7da3ec949e5744f3d6d2701ebe268ded2a7a91554b2087d3fb6919e7ca88da16"), looks := false }, kinds := [], alts := [], laidByText := true, laidKinds := [.data, .data, .data], laidTests := true, laidLooks := .later }
def IncPlaysUptoCardSaid : Prop := Claim7.holds Tryz.pinned (.plain (OpenSpec.upto incPlaysSpec)) incPlaysUptoCard
end Rows
end Go.Proofs.YtldlmkfigjicgaaGreatDoor
