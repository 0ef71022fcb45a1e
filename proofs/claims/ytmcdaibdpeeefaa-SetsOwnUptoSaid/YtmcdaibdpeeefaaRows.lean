/-
  No cell of these rows narrows 'for every input' (looked for: loops, veiled, ifaces, maps, wideKeys, modest, calm, conditions, laid).
  DERIVED. THE GIVEN ROWS OF THIS SEAT. 6 by the template 'for every input the law returns true; each argument reads behind the call as it read before'; 0 by the template 'total and deterministic' (their statements: YtmcdaibdpeeefaaTotals.lean).
  GIVEN WITH THE SEED: the statements are not yours to turn. If you find one false, say at which input.
  Laid BY PROGRAM, IN A SANDBOX (cutbox-rows.mjs): the forced cells as the released guide's own fill.sh prints them over the translation 9d2cc445c2e601e5… (all of the seat's roots in one cut). By AI agents, Wed Nov 11 2026. No macro, syntax, notation, axiom, sorry.
-/
import Derived.Test.YtmcdaibdpeeefaaChecked
import GoSem.Claim
import GoSem.ClaimJoined
import GoSem.ClaimMapViews
import Derived.JoinedTies
import Derived.KernelRfl
namespace Go.Proofs.Ytmcdaibdpeeefaa
/- THE CELL 'sum', in the pinned program and in every row, IS THE sha256 OF THE DUMP (.gsa) THAT YtmcdaibdpeeefaaProg.lean LOADS. Nothing in Lean hashes anything: it is a label: what it is worth is what the hold of that sum in a sandbox is worth. -/
noncomputable def Try.pinned : Pinned := { name := "ytmcdaibdpeeefaa", sum := "9d2cc445c2e601e5093fad5b49d0d4abf1affe8ca6e9830d6e8b283cf1c913fe", checked := Try.checked }
namespace Rows
def none {H : Type} : Left H := { results := [], args := [] }

/-- 'viewkeep.ZsetGroup': WHATEVER THE INPUT: true; the input reads as it did. -/
def zsetGroupSpec : ChangeSpec := { name := "zsetGroup", fn := fun _ => fun
  | [d1, d2, d3] => { results := [.lit (.bool true)], args := [d1, d2, d3] }
  | _ => none }
def zsetGroupRow : OpenClaim := { program := "ytmcdaibdpeeefaa", sum := "9d2cc445c2e601e5093fad5b49d0d4abf1affe8ca6e9830d6e8b283cf1c913fe", func := "viewmere/viewkeep.ZsetGroup", spec := "zsetGroup", unfollowed := true, recurses := true, apart := false }
def ZsetGroupSaid : Prop := zsetGroupRow.holds Try.pinned (OpenSpec.ofChange zsetGroupSpec)

/-- ITS FALSE NEIGHBOUR: 'it returns false'. Refute it at one input. -/
def zsetGroupWrong : ChangeSpec := { name := "zsetGroup", fn := fun _ => fun
  | [d1, d2, d3] => { results := [.lit (.bool false)], args := [d1, d2, d3] }
  | _ => none }
def ZsetGroupWrongFalsely : Prop := zsetGroupRow.holds Try.pinned (OpenSpec.ofChange zsetGroupWrong)

/-- 'viewkeep.RankSorts': WHATEVER THE INPUT: true; the input reads as it did. -/
def rankSortsSpec : ChangeSpec := { name := "rankSorts", fn := fun _ => fun
  | [d1, d2, d3] => { results := [.lit (.bool true)], args := [d1, d2, d3] }
  | _ => none }
def rankSortsRow : OpenClaim := { program := "ytmcdaibdpeeefaa", sum := "9d2cc445c2e601e5093fad5b49d0d4abf1affe8ca6e9830d6e8b283cf1c913fe", func := "viewmere/viewkeep.RankSorts", spec := "rankSorts", unfollowed := true, recurses := true, apart := false }
def RankSortsSaid : Prop := rankSortsRow.holds Try.pinned (OpenSpec.ofChange rankSortsSpec)

/-- ITS FALSE NEIGHBOUR: 'it returns false'. Refute it at one input. -/
def rankSortsWrong : ChangeSpec := { name := "rankSorts", fn := fun _ => fun
  | [d1, d2, d3] => { results := [.lit (.bool false)], args := [d1, d2, d3] }
  | _ => none }
def RankSortsWrongFalsely : Prop := rankSortsRow.holds Try.pinned (OpenSpec.ofChange rankSortsWrong)

/-- 'viewkeep.PlainParts': WHATEVER THE INPUT: true; the input reads as it did. -/
def plainPartsSpec : ChangeSpec := { name := "plainParts", fn := fun _ => fun
  | [d1, d2, d3, d4] => { results := [.lit (.bool true)], args := [d1, d2, d3, d4] }
  | _ => none }
def plainPartsRow : OpenClaim := { program := "ytmcdaibdpeeefaa", sum := "9d2cc445c2e601e5093fad5b49d0d4abf1affe8ca6e9830d6e8b283cf1c913fe", func := "viewmere/viewkeep.PlainParts", spec := "plainParts", unfollowed := true, recurses := true, apart := false }
def PlainPartsSaid : Prop := plainPartsRow.holds Try.pinned (OpenSpec.ofChange plainPartsSpec)

/-- ITS FALSE NEIGHBOUR: 'it returns false'. Refute it at one input. -/
def plainPartsWrong : ChangeSpec := { name := "plainParts", fn := fun _ => fun
  | [d1, d2, d3, d4] => { results := [.lit (.bool false)], args := [d1, d2, d3, d4] }
  | _ => none }
def PlainPartsWrongFalsely : Prop := plainPartsRow.holds Try.pinned (OpenSpec.ofChange plainPartsWrong)

/-- 'viewkeep.PlainLinear': WHATEVER THE INPUT: true; the input reads as it did. -/
def plainLinearSpec : ChangeSpec := { name := "plainLinear", fn := fun _ => fun
  | [d1, d2, d3, d4, d5] => { results := [.lit (.bool true)], args := [d1, d2, d3, d4, d5] }
  | _ => none }
def plainLinearRow : OpenClaim := { program := "ytmcdaibdpeeefaa", sum := "9d2cc445c2e601e5093fad5b49d0d4abf1affe8ca6e9830d6e8b283cf1c913fe", func := "viewmere/viewkeep.PlainLinear", spec := "plainLinear", unfollowed := true, recurses := true, apart := false }
def PlainLinearSaid : Prop := plainLinearRow.holds Try.pinned (OpenSpec.ofChange plainLinearSpec)

/-- ITS FALSE NEIGHBOUR: 'it returns false'. Refute it at one input. -/
def plainLinearWrong : ChangeSpec := { name := "plainLinear", fn := fun _ => fun
  | [d1, d2, d3, d4, d5] => { results := [.lit (.bool false)], args := [d1, d2, d3, d4, d5] }
  | _ => none }
def PlainLinearWrongFalsely : Prop := plainLinearRow.holds Try.pinned (OpenSpec.ofChange plainLinearWrong)

/-- 'viewkeep.SetsOwn': WHATEVER THE INPUT: true; the input reads as it did. -/
def setsOwnSpec : ChangeSpec := { name := "setsOwn", fn := fun _ => fun
  | [d1, d2, d3, d4] => { results := [.lit (.bool true)], args := [d1, d2, d3, d4] }
  | _ => none }
def setsOwnRow : OpenClaim := { program := "ytmcdaibdpeeefaa", sum := "9d2cc445c2e601e5093fad5b49d0d4abf1affe8ca6e9830d6e8b283cf1c913fe", func := "viewmere/viewkeep.SetsOwn", spec := "setsOwn", unfollowed := true, recurses := true, apart := false }
def SetsOwnSaid : Prop := setsOwnRow.holds Try.pinned (OpenSpec.ofChange setsOwnSpec)

/-- ITS FALSE NEIGHBOUR: 'it returns false'. Refute it at one input. -/
def setsOwnWrong : ChangeSpec := { name := "setsOwn", fn := fun _ => fun
  | [d1, d2, d3, d4] => { results := [.lit (.bool false)], args := [d1, d2, d3, d4] }
  | _ => none }
def SetsOwnWrongFalsely : Prop := setsOwnRow.holds Try.pinned (OpenSpec.ofChange setsOwnWrong)

/-- 'viewkeep.IncParts': WHATEVER THE INPUT: true; the input reads as it did. -/
def incPartsSpec : ChangeSpec := { name := "incParts", fn := fun _ => fun
  | [d1, d2, d3] => { results := [.lit (.bool true)], args := [d1, d2, d3] }
  | _ => none }
def incPartsRow : OpenClaim := { program := "ytmcdaibdpeeefaa", sum := "9d2cc445c2e601e5093fad5b49d0d4abf1affe8ca6e9830d6e8b283cf1c913fe", func := "viewmere/viewkeep.IncParts", spec := "incParts", unfollowed := true, recurses := true, apart := false }
def IncPartsSaid : Prop := incPartsRow.holds Try.pinned (OpenSpec.ofChange incPartsSpec)

/-- ITS FALSE NEIGHBOUR: 'it returns false'. Refute it at one input. -/
def incPartsWrong : ChangeSpec := { name := "incParts", fn := fun _ => fun
  | [d1, d2, d3] => { results := [.lit (.bool false)], args := [d1, d2, d3] }
  | _ => none }
def IncPartsWrongFalsely : Prop := incPartsRow.holds Try.pinned (OpenSpec.ofChange incPartsWrong)

/- THE SECOND FORM. 'bulk': how many values and letters a reading holds, each counted each time it is reached (what is shared counts as often as it is met; a slice's spare places count too). A statement '..UptoSaid' is the law's where the arguments, and the package variables that the reading takes, are together of bulk at most 1048576: NARROWER than '..Said'. Prove '..Said' where nothing that the law and all that it calls make is longer than what came in: it says more and counts as full. Else prove '..UptoSaid'. A law counts once. -/
mutual
def uptoBulk {H : Type} : DataW H → Nat
  | .lit (.string bytes) => bytes.length + 1
  | .lit _ => 1
  | .nil => 1
  | .ptr d => uptoBulk d + 1
  | .slice elems spare => uptoBulkAll elems + uptoBulkAll spare + 1
  | .agg parts => uptoBulkAll parts + 1
  | .iface _ d => uptoBulk d + 1
  | .map entries => uptoBulkEntries entries + 1
  | .held _ => 1
def uptoBulkAll {H : Type} : List (DataW H) → Nat
  | [] => 0
  | d :: r => uptoBulk d + uptoBulkAll r
def uptoBulkEntries {H : Type} : List (Lit × DataW H) → Nat
  | [] => 0
  | x :: r => uptoBulkEntry x + uptoBulkEntries r
def uptoBulkEntry {H : Type} : Lit × DataW H → Nat
  | (.string bytes, d) => bytes.length + uptoBulk d + 1
  | (_, d) => uptoBulk d + 1
 end
def uptoSmall : (H : Type) → List (DataW H) → Bool := fun _ ds => decide (uptoBulkAll ds ≤ 1048576)
def OpenSpec.upto (s : _root_.Go.ChangeSpec) : _root_.Go.OpenSpec := { _root_.Go.OpenSpec.ofChange s with cond := some uptoSmall }

/-- 'viewkeep.ZsetGroup', WHERE WHAT IT READS IS OF BULK AT MOST 1048576: true; the input reads as it did. -/
def zsetGroupUptoRow : OpenClaim := { program := "ytmcdaibdpeeefaa", sum := "9d2cc445c2e601e5093fad5b49d0d4abf1affe8ca6e9830d6e8b283cf1c913fe", func := "viewmere/viewkeep.ZsetGroup", spec := "zsetGroup", unfollowed := true, recurses := true, apart := false, narrowed := true }
def ZsetGroupUptoSaid : Prop := zsetGroupUptoRow.holds Try.pinned (OpenSpec.upto zsetGroupSpec)

/-- 'viewkeep.RankSorts', WHERE WHAT IT READS IS OF BULK AT MOST 1048576: true; the input reads as it did. -/
def rankSortsUptoRow : OpenClaim := { program := "ytmcdaibdpeeefaa", sum := "9d2cc445c2e601e5093fad5b49d0d4abf1affe8ca6e9830d6e8b283cf1c913fe", func := "viewmere/viewkeep.RankSorts", spec := "rankSorts", unfollowed := true, recurses := true, apart := false, narrowed := true }
def RankSortsUptoSaid : Prop := rankSortsUptoRow.holds Try.pinned (OpenSpec.upto rankSortsSpec)

/-- 'viewkeep.PlainParts', WHERE WHAT IT READS IS OF BULK AT MOST 1048576: true; the input reads as it did. -/
def plainPartsUptoRow : OpenClaim := { program := "ytmcdaibdpeeefaa", sum := "9d2cc445c2e601e5093fad5b49d0d4abf1affe8ca6e9830d6e8b283cf1c913fe", func := "viewmere/viewkeep.PlainParts", spec := "plainParts", unfollowed := true, recurses := true, apart := false, narrowed := true }
def PlainPartsUptoSaid : Prop := plainPartsUptoRow.holds Try.pinned (OpenSpec.upto plainPartsSpec)

/-- 'viewkeep.PlainLinear', WHERE WHAT IT READS IS OF BULK AT MOST 1048576: true; the input reads as it did. -/
def plainLinearUptoRow : OpenClaim := { program := "ytmcdaibdpeeefaa", sum := "9d2cc445c2e601e5093fad5b49d0d4abf1affe8ca6e9830d6e8b283cf1c913fe", func := "viewmere/viewkeep.PlainLinear", spec := "plainLinear", unfollowed := true, recurses := true, apart := false, narrowed := true }
def PlainLinearUptoSaid : Prop := plainLinearUptoRow.holds Try.pinned (OpenSpec.upto plainLinearSpec)

/-- 'viewkeep.SetsOwn', WHERE WHAT IT READS IS OF BULK AT MOST 1048576: true; the input reads as it did. -/
def setsOwnUptoRow : OpenClaim := { program := "ytmcdaibdpeeefaa", sum := "9d2cc445c2e601e5093fad5b49d0d4abf1affe8ca6e9830d6e8b283cf1c913fe", func := "viewmere/viewkeep.SetsOwn", spec := "setsOwn", unfollowed := true, recurses := true, apart := false, narrowed := true }
def SetsOwnUptoSaid : Prop := setsOwnUptoRow.holds Try.pinned (OpenSpec.upto setsOwnSpec)

/-- 'viewkeep.IncParts', WHERE WHAT IT READS IS OF BULK AT MOST 1048576: true; the input reads as it did. -/
def incPartsUptoRow : OpenClaim := { program := "ytmcdaibdpeeefaa", sum := "9d2cc445c2e601e5093fad5b49d0d4abf1affe8ca6e9830d6e8b283cf1c913fe", func := "viewmere/viewkeep.IncParts", spec := "incParts", unfollowed := true, recurses := true, apart := false, narrowed := true }
def IncPartsUptoSaid : Prop := incPartsUptoRow.holds Try.pinned (OpenSpec.upto incPartsSpec)

end Rows
end Go.Proofs.Ytmcdaibdpeeefaa
