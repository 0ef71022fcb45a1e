/- Zrz -/
import Derived.Test.YtmcdaibdpeeefaaGreatCk12
/- Proved: viewkeep.ZsetRows returns true for every input, and each argument reads behind the call as it read before. Conditions: none. -/
namespace Go.Proofs.YtmcdaibdpeeefaaGreat.zsetRows
set_option linter.unusedVariables false
open Go.ChangeShapes Go.WideShapes Go.ChangeAt Go.RowKit

theorem own : ownKnob Tryz.prog.godebug = none := by kernel_rfl
theorem laid : laidOutB Tryz.prog = true := by kernel_rfl
theorem rowed : Tryz.f3.params.toList.all (fun t => Tryz.prog.readableRec t && decide (t < Tryz.prog.types.size)) = true := by kernel_rfl
theorem rowed' : ∀ t ∈ Tryz.f3.params.toList, Tryz.prog.readableRec t = true ∧ t < Tryz.prog.types.size := fun t ht => by
  have h := List.all_eq_true.1 rowed t ht
  rw [Bool.and_eq_true, decide_eq_true_eq] at h
  exact h

set_option maxRecDepth 100000 in
theorem walk {H : Type} {enc : TypeId × Value → H} (W : World) (base : Nat) (args : Array Value) (ds : List (DataW H)) (ps : List MemPlace)
    (hval : ∀ (j : Nat) t v, Tryz.f3.params[j]? = some t → args[j]? = some v → Value.okWide Tryz.prog W .any base t v)
    (hA : DataW.TrodAll enc Tryz.prog W 0 (fun _ => true) true Tryz.f3.params.toList args.toList ds ps) :
    Calls Tryz.prog 3 args W fun e W' => e = .returned (.bool true) ∧ Below W.heap.size W W' := by
  rw [Tryz.params3] at hA hval
  obtain ⟨v0, vs0, e0, es0, p0, u0, hargs, rfl, rfl, h0, x0⟩ := trodAll_cons hA
  obtain ⟨rfl, rfl, rfl⟩ := trodAll_nil x0
  obtain rfl : args = #[v0] := by cases args; simp_all
  obtain ⟨t0, A0, k0, B0, m0, rfl, r0, l0, q0, p0⟩ := arg_table (hval 0 28 v0 rfl rfl) h0
  exact zrows_any t0 A0 k0 B0 m0 W r0 l0 q0 p0

set_option maxRecDepth 100000 in
theorem lifted (os : Os) (started : os.Started) (H : Type) (enc : TypeId × Value → H) :
    ReturnsInHanded {} Tryz.checked os 3 .any (Rows.zsetRowsSpec.pre6 enc Tryz.prog Tryz.f3 Rows.zsetRowsRow.domain false) (Rows.zsetRowsSpec.post enc Tryz.prog Tryz.f3 false true false false) :=
  law_lifted (C := Tryz.checked) own started (by kernel_rfl) Tryz.func3
    (ChangeSpec.witness6 (enc := enc) (C := Tryz.checked) false ⟨#[], #[.agg #[.int .i64 0, .int .i64 0, .int .i64 0, .int .i64 0, .slice none 0 0, .slice none 0 0]], []⟩ 8 (by kernel_rfl) (by kernel_rfl) (by kernel_rfl) (by kernel_rfl))
    laid rowed' rfl Tryz.underlying4 rfl (fun es h => by match es, h with | [_], _ => rfl) (fun W base args ds ps hval hA => walk W base args ds ps hval hA)

theorem over : Rows.zsetRowsRow.holds Tryz.pinned (OpenSpec.ofChange Rows.zsetRowsSpec) :=
  OpenClaim.holds_of_wide 3 Tryz.f3 rfl rfl rfl rfl rfl rfl rfl ⟨rfl, rfl, rfl, rfl, rfl⟩ rfl rfl rfl rfl rfl (by kernel_rfl) Tryz.func3 (by kernel_rfl)
    (of_decide_eq_true (by kernel_rfl)) (by unfold Func.isWrapper; first | (rw [if_pos (by decide +kernel)]; kernel_rfl) | (rw [if_neg (by decide +kernel)]; exact ⟨rfl, rfl⟩))
    (fun os started H enc _ => lifted os started H enc)

theorem proved : Rows.ZsetRowsSaid := over
#print axioms proved
end Go.Proofs.YtmcdaibdpeeefaaGreat.zsetRows
