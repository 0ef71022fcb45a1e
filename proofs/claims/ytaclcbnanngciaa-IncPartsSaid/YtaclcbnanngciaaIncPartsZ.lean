/- Ivz -/
import Derived.Test.YtaclcbnanngciaaCk06
import Derived.Test.YtaclcbnanngciaaCk17
/- Proved: viewkeep.IncParts returns true for every input, and each argument reads behind the call as it read before. Conditions: none. -/
namespace Go.Proofs.Ytaclcbnanngciaa.incParts
set_option linter.unusedVariables false
open Go.ChangeShapes Go.WideShapes Go.ChangeAt Go.RowKit

theorem own : ownKnob Try.prog.godebug = none := by kernel_rfl
theorem laid : laidOutB Try.prog = true := by kernel_rfl
theorem rowed : Try.f3.params.toList.all (fun t => Try.prog.readableRec t && decide (t < Try.prog.types.size)) = true := by kernel_rfl
theorem rowed' : ∀ t ∈ Try.f3.params.toList, Try.prog.readableRec t = true ∧ t < Try.prog.types.size := fun t ht => by
  have h := List.all_eq_true.1 rowed t ht
  rw [Bool.and_eq_true, decide_eq_true_eq] at h
  exact h

set_option maxRecDepth 100000 in
theorem walk {H : Type} {enc : TypeId × Value → H} (W : World) (base : Nat) (args : Array Value) (ds : List (DataW H)) (ps : List MemPlace)
    (hval : ∀ (j : Nat) t v, Try.f3.params[j]? = some t → args[j]? = some v → Value.okWide Try.prog W .any base t v)
    (hA : DataW.TrodAll enc Try.prog W 0 (fun _ => true) true Try.f3.params.toList args.toList ds ps) :
    Calls Try.prog 3 args W fun e W' => e = .returned (.bool true) ∧ Below W.heap.size W W' := by
  rw [Try.params3] at hA hval
  obtain ⟨v0, vs0, e0, es0, p0, u0, hargs, rfl, rfl, h0, x0⟩ := trodAll_cons hA
  obtain ⟨v1, vs1, e1, es1, p1, u1, rfl, rfl, rfl, h1, x1⟩ := trodAll_cons x0
  obtain ⟨v2, vs2, e2, es2, p2, u2, rfl, rfl, rfl, h2, x2⟩ := trodAll_cons x1
  obtain ⟨rfl, rfl, rfl⟩ := trodAll_nil x2
  obtain rfl : args = #[v0, v1, v2] := by cases args; simp_all
  obtain ⟨A0, k0, L0, rfl, r0, l0⟩ := arg_steps (hval 0 22 v0 rfl rfl) h0
  obtain ⟨X1, Y1, rfl, ⟨r1, l1⟩, q1, p1⟩ := arg_food (hval 1 25 v1 rfl rfl) h1
  obtain ⟨X2, Y2, rfl, ⟨r2, l2⟩, q2, p2⟩ := arg_food (hval 2 25 v2 rfl rfl) h2
  exact incParts_any L0 A0 k0 X1 Y1 X2 Y2 W r0 l0 r1 q1 r2 q2 l1 p1 l2 p2

set_option maxRecDepth 100000 in
theorem lifted (os : Os) (started : os.Started) (H : Type) (enc : TypeId × Value → H) :
    ReturnsInHanded {} Try.checked os 3 .any (Rows.incPartsSpec.pre6 enc Try.prog Try.f3 Rows.incPartsRow.domain false) (Rows.incPartsSpec.post enc Try.prog Try.f3 false true false false) :=
  law_lifted (C := Try.checked) own started (by kernel_rfl) Try.func3
    (ChangeSpec.witness6 (enc := enc) (C := Try.checked) false ⟨#[], #[.slice none 0 0, .agg #[.slice none 0 0, .slice none 0 0], .agg #[.slice none 0 0, .slice none 0 0]], []⟩ 8 (by kernel_rfl) (by kernel_rfl) (by kernel_rfl) (by kernel_rfl))
    laid rowed' rfl Try.underlying4 rfl (fun es h => by match es, h with | [_, _, _], _ => rfl) (fun W base args ds ps hval hA => walk W base args ds ps hval hA)

theorem over : Rows.incPartsRow.holds Try.pinned (OpenSpec.ofChange Rows.incPartsSpec) :=
  OpenClaim.holds_of_wide 3 Try.f3 rfl rfl rfl rfl rfl rfl rfl ⟨rfl, rfl, rfl, rfl, rfl⟩ rfl rfl rfl rfl rfl (by kernel_rfl) Try.func3 (by kernel_rfl)
    (of_decide_eq_true (by kernel_rfl)) (by unfold Func.isWrapper; first | (rw [if_pos (by decide +kernel)]; kernel_rfl) | (rw [if_neg (by decide +kernel)]; exact ⟨rfl, rfl⟩))
    (fun os started H enc _ => lifted os started H enc)

theorem proved : Rows.IncPartsSaid := over
#print axioms proved
end Go.Proofs.Ytaclcbnanngciaa.incParts
