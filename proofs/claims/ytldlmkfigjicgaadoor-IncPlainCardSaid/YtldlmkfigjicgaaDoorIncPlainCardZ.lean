/- Icz -/
import Derived.Test.YtldlmkfigjicgaaDoorCards
import Derived.Test.YtldlmkfigjicgaaDoorTie
import Derived.Test.YtldlmkfigjicgaaDoorCk22
import Derived.Test.YtldlmkfigjicgaaDoorCk23
/- Proved: viewkeep.IncPlain returns true for every input, and each argument reads behind the call as it read before. Conditions: the library's listed tables hold what the text lays in them (the row's cell laid; the card ties it). -/
namespace Go.Proofs.YtldlmkfigjicgaaDoor.incPlain
set_option linter.unusedVariables false
open Go.ChangeShapes Go.WideShapes Go.ChangeAt Go.RowKit

theorem own : ownKnob Tryd.prog.godebug = none := by kernel_rfl
theorem laid : laidOutB Tryd.prog = true := by kernel_rfl
theorem rowed : Tryd.f4.params.toList.all (fun t => Tryd.prog.readableRec t && decide (t < Tryd.prog.types.size)) = true := by kernel_rfl
theorem rowed' : ∀ t ∈ Tryd.f4.params.toList, Tryd.prog.readableRec t = true ∧ t < Tryd.prog.types.size := fun t ht => by
  have h := List.all_eq_true.1 rowed t ht
  rw [Bool.and_eq_true, decide_eq_true_eq] at h
  exact h

end Go.Proofs.YtldlmkfigjicgaaDoor.incPlain
