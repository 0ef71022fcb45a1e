/-
  No cell of these rows narrows 'for every input' (looked for: loops, veiled, ifaces, maps, wideKeys, modest, calm, conditions, laid).
  DERIVED. THE GIVEN ROWS OF THIS SEAT. 12 by the template 'for every input the law returns true; each argument reads behind the call as it read before'; 0 by the template 'total and deterministic' (their statements: YtogegnikpjcpdaaTotals.lean).
  GIVEN WITH THE SEED: the statements are not yours to turn. If you find one false, say at which input.
  Laid BY PROGRAM, IN A SANDBOX (cutbox-rows.mjs): the forced cells as the released guide's own fill.sh prints them over the translation 955d4c156fd481a2… (all of the seat's roots in one cut). By AI agents, Wed Nov 11 2026. No macro, syntax, notation, axiom, sorry.
-/
import Derived.Test.YtogegnikpjcpdaaChecked
import GoSem.Claim
import GoSem.ClaimJoined
import GoSem.ClaimMapViews
import Derived.JoinedTies
import Derived.KernelRfl
namespace Go.Proofs.Ytogegnikpjcpdaa
/- THE CELL 'sum', in the pinned program and in every row, IS THE sha256 OF THE DUMP (.gsa) THAT YtogegnikpjcpdaaProg.lean LOADS. Nothing in Lean hashes anything: it is a label: what it is worth is what the hold of that sum in a sandbox is worth. -/
noncomputable def Try.pinned : Pinned := { name := "ytogegnikpjcpdaa", sum := "955d4c156fd481a29aea71084219f9d5e29cde7ad57fa34c65d571d01f1f1e18", checked := Try.checked }
namespace Rows
def none {H : Type} : Left H := { results := [], args := [] }

/-- 'viewlaw.DotSays': WHATEVER THE INPUT: true; the input reads as it did. -/
def dotSaysSpec : ChangeSpec := { name := "dotSays", fn := fun _ => fun
  | [d1, d2, d3, d4] => { results := [.lit (.bool true)], args := [d1, d2, d3, d4] }
  | _ => none }
def dotSaysRow : OpenClaim := { program := "ytogegnikpjcpdaa", sum := "955d4c156fd481a29aea71084219f9d5e29cde7ad57fa34c65d571d01f1f1e18", func := "viewmere/viewlaw.DotSays", spec := "dotSays", unfollowed := true, recurses := true, plainKeys := false, apart := false }
def DotSaysSaid : Prop := dotSaysRow.holds Try.pinned (OpenSpec.ofChange dotSaysSpec)

/-- ITS FALSE NEIGHBOUR: 'it returns false'. Refute it at one input. -/
def dotSaysWrong : ChangeSpec := { name := "dotSays", fn := fun _ => fun
  | [d1, d2, d3, d4] => { results := [.lit (.bool false)], args := [d1, d2, d3, d4] }
  | _ => none }
def DotSaysWrongFalsely : Prop := dotSaysRow.holds Try.pinned (OpenSpec.ofChange dotSaysWrong)

/-- 'viewlaw.DotPairs': WHATEVER THE INPUT: true; the input reads as it did. -/
def dotPairsSpec : ChangeSpec := { name := "dotPairs", fn := fun _ => fun
  | [d1, d2] => { results := [.lit (.bool true)], args := [d1, d2] }
  | _ => none }
def dotPairsRow : OpenClaim := { program := "ytogegnikpjcpdaa", sum := "955d4c156fd481a29aea71084219f9d5e29cde7ad57fa34c65d571d01f1f1e18", func := "viewmere/viewlaw.DotPairs", spec := "dotPairs", unfollowed := true, recurses := true, plainKeys := false, apart := false }
def DotPairsSaid : Prop := dotPairsRow.holds Try.pinned (OpenSpec.ofChange dotPairsSpec)

/-- ITS FALSE NEIGHBOUR: 'it returns false'. Refute it at one input. -/
def dotPairsWrong : ChangeSpec := { name := "dotPairs", fn := fun _ => fun
  | [d1, d2] => { results := [.lit (.bool false)], args := [d1, d2] }
  | _ => none }
def DotPairsWrongFalsely : Prop := dotPairsRow.holds Try.pinned (OpenSpec.ofChange dotPairsWrong)

/-- 'viewkeep.DotLattice': WHATEVER THE INPUT: true; the input reads as it did. -/
def dotLatticeSpec : ChangeSpec := { name := "dotLattice", fn := fun _ => fun
  | [d1, d2, d3, d4] => { results := [.lit (.bool true)], args := [d1, d2, d3, d4] }
  | _ => none }
def dotLatticeRow : OpenClaim := { program := "ytogegnikpjcpdaa", sum := "955d4c156fd481a29aea71084219f9d5e29cde7ad57fa34c65d571d01f1f1e18", func := "viewmere/viewkeep.DotLattice", spec := "dotLattice", unfollowed := true, recurses := true, plainKeys := false, apart := false }
def DotLatticeSaid : Prop := dotLatticeRow.holds Try.pinned (OpenSpec.ofChange dotLatticeSpec)

/-- ITS FALSE NEIGHBOUR: 'it returns false'. Refute it at one input. -/
def dotLatticeWrong : ChangeSpec := { name := "dotLattice", fn := fun _ => fun
  | [d1, d2, d3, d4] => { results := [.lit (.bool false)], args := [d1, d2, d3, d4] }
  | _ => none }
def DotLatticeWrongFalsely : Prop := dotLatticeRow.holds Try.pinned (OpenSpec.ofChange dotLatticeWrong)

/-- 'viewkeep.DotMinus': WHATEVER THE INPUT: true; the input reads as it did. -/
def dotMinusSpec : ChangeSpec := { name := "dotMinus", fn := fun _ => fun
  | [d1, d2, d3] => { results := [.lit (.bool true)], args := [d1, d2, d3] }
  | _ => none }
def dotMinusRow : OpenClaim := { program := "ytogegnikpjcpdaa", sum := "955d4c156fd481a29aea71084219f9d5e29cde7ad57fa34c65d571d01f1f1e18", func := "viewmere/viewkeep.DotMinus", spec := "dotMinus", unfollowed := true, recurses := true, plainKeys := false, apart := false }
def DotMinusSaid : Prop := dotMinusRow.holds Try.pinned (OpenSpec.ofChange dotMinusSpec)

/-- ITS FALSE NEIGHBOUR: 'it returns false'. Refute it at one input. -/
def dotMinusWrong : ChangeSpec := { name := "dotMinus", fn := fun _ => fun
  | [d1, d2, d3] => { results := [.lit (.bool false)], args := [d1, d2, d3] }
  | _ => none }
def DotMinusWrongFalsely : Prop := dotMinusRow.holds Try.pinned (OpenSpec.ofChange dotMinusWrong)

/-- 'viewkeep.StableMeets': WHATEVER THE INPUT: true; the input reads as it did. -/
def stableMeetsSpec : ChangeSpec := { name := "stableMeets", fn := fun _ => fun
  | [d1, d2, d3] => { results := [.lit (.bool true)], args := [d1, d2, d3] }
  | _ => none }
def stableMeetsRow : OpenClaim := { program := "ytogegnikpjcpdaa", sum := "955d4c156fd481a29aea71084219f9d5e29cde7ad57fa34c65d571d01f1f1e18", func := "viewmere/viewkeep.StableMeets", spec := "stableMeets", unfollowed := true, recurses := true, plainKeys := false, apart := false }
def StableMeetsSaid : Prop := stableMeetsRow.holds Try.pinned (OpenSpec.ofChange stableMeetsSpec)

/-- ITS FALSE NEIGHBOUR: 'it returns false'. Refute it at one input. -/
def stableMeetsWrong : ChangeSpec := { name := "stableMeets", fn := fun _ => fun
  | [d1, d2, d3] => { results := [.lit (.bool false)], args := [d1, d2, d3] }
  | _ => none }
def StableMeetsWrongFalsely : Prop := stableMeetsRow.holds Try.pinned (OpenSpec.ofChange stableMeetsWrong)

/-- 'viewlaw.StableSays': WHATEVER THE INPUT: true; the input reads as it did. -/
def stableSaysSpec : ChangeSpec := { name := "stableSays", fn := fun _ => fun
  | [d1, d2] => { results := [.lit (.bool true)], args := [d1, d2] }
  | _ => none }
def stableSaysRow : OpenClaim := { program := "ytogegnikpjcpdaa", sum := "955d4c156fd481a29aea71084219f9d5e29cde7ad57fa34c65d571d01f1f1e18", func := "viewmere/viewlaw.StableSays", spec := "stableSays", unfollowed := true, recurses := true, plainKeys := false, apart := false }
def StableSaysSaid : Prop := stableSaysRow.holds Try.pinned (OpenSpec.ofChange stableSaysSpec)

/-- ITS FALSE NEIGHBOUR: 'it returns false'. Refute it at one input. -/
def stableSaysWrong : ChangeSpec := { name := "stableSays", fn := fun _ => fun
  | [d1, d2] => { results := [.lit (.bool false)], args := [d1, d2] }
  | _ => none }
def StableSaysWrongFalsely : Prop := stableSaysRow.holds Try.pinned (OpenSpec.ofChange stableSaysWrong)

/-- 'viewlaw.TableSays': WHATEVER THE INPUT: true; the input reads as it did. -/
def tableSaysSpec : ChangeSpec := { name := "tableSays", fn := fun _ => fun
  | [d1, d2, d3, d4, d5] => { results := [.lit (.bool true)], args := [d1, d2, d3, d4, d5] }
  | _ => none }
def tableSaysRow : OpenClaim := { program := "ytogegnikpjcpdaa", sum := "955d4c156fd481a29aea71084219f9d5e29cde7ad57fa34c65d571d01f1f1e18", func := "viewmere/viewlaw.TableSays", spec := "tableSays", unfollowed := true, recurses := true, plainKeys := false, apart := false }
def TableSaysSaid : Prop := tableSaysRow.holds Try.pinned (OpenSpec.ofChange tableSaysSpec)

/-- ITS FALSE NEIGHBOUR: 'it returns false'. Refute it at one input. -/
def tableSaysWrong : ChangeSpec := { name := "tableSays", fn := fun _ => fun
  | [d1, d2, d3, d4, d5] => { results := [.lit (.bool false)], args := [d1, d2, d3, d4, d5] }
  | _ => none }
def TableSaysWrongFalsely : Prop := tableSaysRow.holds Try.pinned (OpenSpec.ofChange tableSaysWrong)

/-- 'viewlaw.TableMerges': WHATEVER THE INPUT: true; the input reads as it did. -/
def tableMergesSpec : ChangeSpec := { name := "tableMerges", fn := fun _ => fun
  | [d1, d2] => { results := [.lit (.bool true)], args := [d1, d2] }
  | _ => none }
def tableMergesRow : OpenClaim := { program := "ytogegnikpjcpdaa", sum := "955d4c156fd481a29aea71084219f9d5e29cde7ad57fa34c65d571d01f1f1e18", func := "viewmere/viewlaw.TableMerges", spec := "tableMerges", unfollowed := true, recurses := true, plainKeys := false, apart := false }
def TableMergesSaid : Prop := tableMergesRow.holds Try.pinned (OpenSpec.ofChange tableMergesSpec)

/-- ITS FALSE NEIGHBOUR: 'it returns false'. Refute it at one input. -/
def tableMergesWrong : ChangeSpec := { name := "tableMerges", fn := fun _ => fun
  | [d1, d2] => { results := [.lit (.bool false)], args := [d1, d2] }
  | _ => none }
def TableMergesWrongFalsely : Prop := tableMergesRow.holds Try.pinned (OpenSpec.ofChange tableMergesWrong)

/-- 'viewkeep.TableLattice': WHATEVER THE INPUT: true; the input reads as it did. -/
def tableLatticeSpec : ChangeSpec := { name := "tableLattice", fn := fun _ => fun
  | [d1, d2, d3] => { results := [.lit (.bool true)], args := [d1, d2, d3] }
  | _ => none }
def tableLatticeRow : OpenClaim := { program := "ytogegnikpjcpdaa", sum := "955d4c156fd481a29aea71084219f9d5e29cde7ad57fa34c65d571d01f1f1e18", func := "viewmere/viewkeep.TableLattice", spec := "tableLattice", unfollowed := true, recurses := true, plainKeys := false, apart := false }
def TableLatticeSaid : Prop := tableLatticeRow.holds Try.pinned (OpenSpec.ofChange tableLatticeSpec)

/-- ITS FALSE NEIGHBOUR: 'it returns false'. Refute it at one input. -/
def tableLatticeWrong : ChangeSpec := { name := "tableLattice", fn := fun _ => fun
  | [d1, d2, d3] => { results := [.lit (.bool false)], args := [d1, d2, d3] }
  | _ => none }
def TableLatticeWrongFalsely : Prop := tableLatticeRow.holds Try.pinned (OpenSpec.ofChange tableLatticeWrong)

/-- 'viewkeep.TableEdits': WHATEVER THE INPUT: true; the input reads as it did. -/
def tableEditsSpec : ChangeSpec := { name := "tableEdits", fn := fun _ => fun
  | [d1, d2, d3, d4, d5, d6] => { results := [.lit (.bool true)], args := [d1, d2, d3, d4, d5, d6] }
  | _ => none }
def tableEditsRow : OpenClaim := { program := "ytogegnikpjcpdaa", sum := "955d4c156fd481a29aea71084219f9d5e29cde7ad57fa34c65d571d01f1f1e18", func := "viewmere/viewkeep.TableEdits", spec := "tableEdits", unfollowed := true, recurses := true, plainKeys := false, apart := false }
def TableEditsSaid : Prop := tableEditsRow.holds Try.pinned (OpenSpec.ofChange tableEditsSpec)

/-- ITS FALSE NEIGHBOUR: 'it returns false'. Refute it at one input. -/
def tableEditsWrong : ChangeSpec := { name := "tableEdits", fn := fun _ => fun
  | [d1, d2, d3, d4, d5, d6] => { results := [.lit (.bool false)], args := [d1, d2, d3, d4, d5, d6] }
  | _ => none }
def TableEditsWrongFalsely : Prop := tableEditsRow.holds Try.pinned (OpenSpec.ofChange tableEditsWrong)

/-- 'viewkeep.TableWins': WHATEVER THE INPUT: true; the input reads as it did. -/
def tableWinsSpec : ChangeSpec := { name := "tableWins", fn := fun _ => fun
  | [d1, d2, d3, d4, d5] => { results := [.lit (.bool true)], args := [d1, d2, d3, d4, d5] }
  | _ => none }
def tableWinsRow : OpenClaim := { program := "ytogegnikpjcpdaa", sum := "955d4c156fd481a29aea71084219f9d5e29cde7ad57fa34c65d571d01f1f1e18", func := "viewmere/viewkeep.TableWins", spec := "tableWins", unfollowed := true, recurses := true, plainKeys := false, apart := false }
def TableWinsSaid : Prop := tableWinsRow.holds Try.pinned (OpenSpec.ofChange tableWinsSpec)

/-- ITS FALSE NEIGHBOUR: 'it returns false'. Refute it at one input. -/
def tableWinsWrong : ChangeSpec := { name := "tableWins", fn := fun _ => fun
  | [d1, d2, d3, d4, d5] => { results := [.lit (.bool false)], args := [d1, d2, d3, d4, d5] }
  | _ => none }
def TableWinsWrongFalsely : Prop := tableWinsRow.holds Try.pinned (OpenSpec.ofChange tableWinsWrong)

/-- 'viewkeep.TableSince': WHATEVER THE INPUT: true; the input reads as it did. -/
def tableSinceSpec : ChangeSpec := { name := "tableSince", fn := fun _ => fun
  | [d1, d2] => { results := [.lit (.bool true)], args := [d1, d2] }
  | _ => none }
def tableSinceRow : OpenClaim := { program := "ytogegnikpjcpdaa", sum := "955d4c156fd481a29aea71084219f9d5e29cde7ad57fa34c65d571d01f1f1e18", func := "viewmere/viewkeep.TableSince", spec := "tableSince", unfollowed := true, recurses := true, plainKeys := false, apart := false }
def TableSinceSaid : Prop := tableSinceRow.holds Try.pinned (OpenSpec.ofChange tableSinceSpec)

/-- ITS FALSE NEIGHBOUR: 'it returns false'. Refute it at one input. -/
def tableSinceWrong : ChangeSpec := { name := "tableSince", fn := fun _ => fun
  | [d1, d2] => { results := [.lit (.bool false)], args := [d1, d2] }
  | _ => none }
def TableSinceWrongFalsely : Prop := tableSinceRow.holds Try.pinned (OpenSpec.ofChange tableSinceWrong)

/- THE SECOND FORM. 'bulk': how many values and letters a reading holds, each counted each time it is reached (what is shared counts as often as it is met; a slice's spare places count too). A statement '..UptoSaid' is the law's where the arguments, and the package variables that the reading takes, are together of bulk at most 1048576: NARROWER than '..Said'. Prove '..Said' where nothing that the law and all that it calls make is longer than what came in: it says more and counts as full. Else prove '..UptoSaid'. A law counts once. -/
mutual
def uptoBulk {H : Type} : DataW H → Nat
  | .lit (.string bytes) => bytes.length + 1
  | .lit _ => 1
  | .nil => 1
  | .ptr d => uptoBulk d + 1
  | .slice elems spare => uptoBulkAll elems + uptoBulkAll spare + 1
  | .agg parts => uptoBulkAll parts + 1
  | .iface _ d => uptoBulk d + 1
  | .map entries => uptoBulkEntries entries + 1
  | .held _ => 1
def uptoBulkAll {H : Type} : List (DataW H) → Nat
  | [] => 0
  | d :: r => uptoBulk d + uptoBulkAll r
def uptoBulkEntries {H : Type} : List (Lit × DataW H) → Nat
  | [] => 0
  | x :: r => uptoBulkEntry x + uptoBulkEntries r
def uptoBulkEntry {H : Type} : Lit × DataW H → Nat
  | (.string bytes, d) => bytes.length + uptoBulk d + 1
  | (_, d) => uptoBulk d + 1
 end
def uptoSmall : (H : Type) → List (DataW H) → Bool := fun _ ds => decide (uptoBulkAll ds ≤ 1048576)
def OpenSpec.upto (s : _root_.Go.ChangeSpec) : _root_.Go.OpenSpec := { _root_.Go.OpenSpec.ofChange s with cond := some uptoSmall }

/-- 'viewlaw.DotSays', WHERE WHAT IT READS IS OF BULK AT MOST 1048576: true; the input reads as it did. -/
def dotSaysUptoRow : OpenClaim := { program := "ytogegnikpjcpdaa", sum := "955d4c156fd481a29aea71084219f9d5e29cde7ad57fa34c65d571d01f1f1e18", func := "viewmere/viewlaw.DotSays", spec := "dotSays", unfollowed := true, recurses := true, plainKeys := false, apart := false, narrowed := true }
def DotSaysUptoSaid : Prop := dotSaysUptoRow.holds Try.pinned (OpenSpec.upto dotSaysSpec)

/-- 'viewlaw.DotPairs', WHERE WHAT IT READS IS OF BULK AT MOST 1048576: true; the input reads as it did. -/
def dotPairsUptoRow : OpenClaim := { program := "ytogegnikpjcpdaa", sum := "955d4c156fd481a29aea71084219f9d5e29cde7ad57fa34c65d571d01f1f1e18", func := "viewmere/viewlaw.DotPairs", spec := "dotPairs", unfollowed := true, recurses := true, plainKeys := false, apart := false, narrowed := true }
def DotPairsUptoSaid : Prop := dotPairsUptoRow.holds Try.pinned (OpenSpec.upto dotPairsSpec)

/-- 'viewkeep.DotLattice', WHERE WHAT IT READS IS OF BULK AT MOST 1048576: true; the input reads as it did. -/
def dotLatticeUptoRow : OpenClaim := { program := "ytogegnikpjcpdaa", sum := "955d4c156fd481a29aea71084219f9d5e29cde7ad57fa34c65d571d01f1f1e18", func := "viewmere/viewkeep.DotLattice", spec := "dotLattice", unfollowed := true, recurses := true, plainKeys := false, apart := false, narrowed := true }
def DotLatticeUptoSaid : Prop := dotLatticeUptoRow.holds Try.pinned (OpenSpec.upto dotLatticeSpec)

/-- 'viewkeep.DotMinus', WHERE WHAT IT READS IS OF BULK AT MOST 1048576: true; the input reads as it did. -/
def dotMinusUptoRow : OpenClaim := { program := "ytogegnikpjcpdaa", sum := "955d4c156fd481a29aea71084219f9d5e29cde7ad57fa34c65d571d01f1f1e18", func := "viewmere/viewkeep.DotMinus", spec := "dotMinus", unfollowed := true, recurses := true, plainKeys := false, apart := false, narrowed := true }
def DotMinusUptoSaid : Prop := dotMinusUptoRow.holds Try.pinned (OpenSpec.upto dotMinusSpec)

/-- 'viewkeep.StableMeets', WHERE WHAT IT READS IS OF BULK AT MOST 1048576: true; the input reads as it did. -/
def stableMeetsUptoRow : OpenClaim := { program := "ytogegnikpjcpdaa", sum := "955d4c156fd481a29aea71084219f9d5e29cde7ad57fa34c65d571d01f1f1e18", func := "viewmere/viewkeep.StableMeets", spec := "stableMeets", unfollowed := true, recurses := true, plainKeys := false, apart := false, narrowed := true }
def StableMeetsUptoSaid : Prop := stableMeetsUptoRow.holds Try.pinned (OpenSpec.upto stableMeetsSpec)

/-- 'viewlaw.StableSays', WHERE WHAT IT READS IS OF BULK AT MOST 1048576: true; the input reads as it did. -/
def stableSaysUptoRow : OpenClaim := { program := "ytogegnikpjcpdaa", sum := "955d4c156fd481a29aea71084219f9d5e29cde7ad57fa34c65d571d01f1f1e18", func := "viewmere/viewlaw.StableSays", spec := "stableSays", unfollowed := true, recurses := true, plainKeys := false, apart := false, narrowed := true }
def StableSaysUptoSaid : Prop := stableSaysUptoRow.holds Try.pinned (OpenSpec.upto stableSaysSpec)

/-- 'viewlaw.TableSays', WHERE WHAT IT READS IS OF BULK AT MOST 1048576: true; the input reads as it did. -/
def tableSaysUptoRow : OpenClaim := { program := "ytogegnikpjcpdaa", sum := "955d4c156fd481a29aea71084219f9d5e29cde7ad57fa34c65d571d01f1f1e18", func := "viewmere/viewlaw.TableSays", spec := "tableSays", unfollowed := true, recurses := true, plainKeys := false, apart := false, narrowed := true }
def TableSaysUptoSaid : Prop := tableSaysUptoRow.holds Try.pinned (OpenSpec.upto tableSaysSpec)

/-- 'viewlaw.TableMerges', WHERE WHAT IT READS IS OF BULK AT MOST 1048576: true; the input reads as it did. -/
def tableMergesUptoRow : OpenClaim := { program := "ytogegnikpjcpdaa", sum := "955d4c156fd481a29aea71084219f9d5e29cde7ad57fa34c65d571d01f1f1e18", func := "viewmere/viewlaw.TableMerges", spec := "tableMerges", unfollowed := true, recurses := true, plainKeys := false, apart := false, narrowed := true }
def TableMergesUptoSaid : Prop := tableMergesUptoRow.holds Try.pinned (OpenSpec.upto tableMergesSpec)

/-- 'viewkeep.TableLattice', WHERE WHAT IT READS IS OF BULK AT MOST 1048576: true; the input reads as it did. -/
def tableLatticeUptoRow : OpenClaim := { program := "ytogegnikpjcpdaa", sum := "955d4c156fd481a29aea71084219f9d5e29cde7ad57fa34c65d571d01f1f1e18", func := "viewmere/viewkeep.TableLattice", spec := "tableLattice", unfollowed := true, recurses := true, plainKeys := false, apart := false, narrowed := true }
def TableLatticeUptoSaid : Prop := tableLatticeUptoRow.holds Try.pinned (OpenSpec.upto tableLatticeSpec)

/-- 'viewkeep.TableEdits', WHERE WHAT IT READS IS OF BULK AT MOST 1048576: true; the input reads as it did. -/
def tableEditsUptoRow : OpenClaim := { program := "ytogegnikpjcpdaa", sum := "955d4c156fd481a29aea71084219f9d5e29cde7ad57fa34c65d571d01f1f1e18", func := "viewmere/viewkeep.TableEdits", spec := "tableEdits", unfollowed := true, recurses := true, plainKeys := false, apart := false, narrowed := true }
def TableEditsUptoSaid : Prop := tableEditsUptoRow.holds Try.pinned (OpenSpec.upto tableEditsSpec)

/-- 'viewkeep.TableWins', WHERE WHAT IT READS IS OF BULK AT MOST 1048576: true; the input reads as it did. -/
def tableWinsUptoRow : OpenClaim := { program := "ytogegnikpjcpdaa", sum := "955d4c156fd481a29aea71084219f9d5e29cde7ad57fa34c65d571d01f1f1e18", func := "viewmere/viewkeep.TableWins", spec := "tableWins", unfollowed := true, recurses := true, plainKeys := false, apart := false, narrowed := true }
def TableWinsUptoSaid : Prop := tableWinsUptoRow.holds Try.pinned (OpenSpec.upto tableWinsSpec)

/-- 'viewkeep.TableSince', WHERE WHAT IT READS IS OF BULK AT MOST 1048576: true; the input reads as it did. -/
def tableSinceUptoRow : OpenClaim := { program := "ytogegnikpjcpdaa", sum := "955d4c156fd481a29aea71084219f9d5e29cde7ad57fa34c65d571d01f1f1e18", func := "viewmere/viewkeep.TableSince", spec := "tableSince", unfollowed := true, recurses := true, plainKeys := false, apart := false, narrowed := true }
def TableSinceUptoSaid : Prop := tableSinceUptoRow.holds Try.pinned (OpenSpec.upto tableSinceSpec)

end Rows
end Go.Proofs.Ytogegnikpjcpdaa
