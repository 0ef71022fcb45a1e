/- TMsz -/
import Derived.Test.YtogegnikpjcpdaaCk22
import Derived.Test.YtogegnikpjcpdaaCk14
import Derived.Test.YtogegnikpjcpdaaCk13
/- Proved: viewlaw.TableMerges returns true for every input, and each argument reads behind the call as it read before. Conditions: none. -/
namespace Go.Proofs.Ytogegnikpjcpdaa.tableMerges
set_option linter.unusedVariables false
open Go.ChangeShapes Go.WideShapes Go.ChangeAt Go.RowKit

theorem own : ownKnob Try.prog.godebug = none := by kernel_rfl
theorem laid : laidOutB Try.prog = true := by kernel_rfl
theorem rowed : Try.f10.params.toList.all (fun t => Try.prog.readableRec t && decide (t < Try.prog.types.size)) = true := by kernel_rfl
theorem rowed' : ∀ t ∈ Try.f10.params.toList, Try.prog.readableRec t = true ∧ t < Try.prog.types.size := fun t ht => by
  have h := List.all_eq_true.1 rowed t ht
  rw [Bool.and_eq_true, decide_eq_true_eq] at h
  exact h

set_option maxRecDepth 100000 in
theorem walk {H : Type} {enc : TypeId × Value → H} (W : World) (base : Nat) (args : Array Value) (ds : List (DataW H)) (ps : List MemPlace)
    (hval : ∀ (j : Nat) t v, Try.f10.params[j]? = some t → args[j]? = some v → Value.okWide Try.prog W .any base t v)
    (hA : DataW.TrodAll enc Try.prog W 0 (fun _ => true) true Try.f10.params.toList args.toList ds ps) :
    Calls Try.prog 10 args W fun e W' => e = .returned (.bool true) ∧ Below W.heap.size W W' := by
  rw [Try.params10] at hA hval
  obtain ⟨v0, vs0, e0, es0, p0, u0, hargs, rfl, rfl, h0, x0⟩ := trodAll_cons hA
  obtain ⟨v1, vs1, e1, es1, p1, u1, rfl, rfl, rfl, h1, x1⟩ := trodAll_cons x0
  obtain ⟨rfl, rfl, rfl⟩ := trodAll_nil x1
  obtain rfl : args = #[v0, v1] := by cases args; simp_all
  obtain ⟨t0, A0, k0, B0, m0, rfl, r0, l0, q0, p0⟩ := arg_table (hval 0 59 v0 rfl rfl) h0
  obtain ⟨t1, A1, k1, B1, m1, rfl, r1, l1, q1, p1⟩ := arg_table (hval 1 59 v1 rfl rfl) h1
  exact tms_any t0 t1 A0 k0 B0 m0 A1 k1 B1 m1 W r0 l0 q0 p0 r1 l1 q1 p1

set_option maxRecDepth 100000 in
theorem lifted (os : Os) (started : os.Started) (H : Type) (enc : TypeId × Value → H) :
    ReturnsInHanded {} Try.checked os 10 .any (Rows.tableMergesSpec.pre6 enc Try.prog Try.f10 Rows.tableMergesRow.domain false) (Rows.tableMergesSpec.post enc Try.prog Try.f10 false true false false) :=
  law_lifted (C := Try.checked) own started (by kernel_rfl) Try.func10
    (ChangeSpec.witness6 (enc := enc) (C := Try.checked) false ⟨#[], #[.agg #[.int .i64 0, .int .i64 0, .int .i64 0, .int .i64 0, .slice none 0 0, .slice none 0 0], .agg #[.int .i64 0, .int .i64 0, .int .i64 0, .int .i64 0, .slice none 0 0, .slice none 0 0]], []⟩ 8 (by kernel_rfl) (by kernel_rfl) (by kernel_rfl) (by kernel_rfl))
    laid rowed' rfl Try.underlying4 rfl (fun es h => by match es, h with | [_, _], _ => rfl) (fun W base args ds ps hval hA => walk W base args ds ps hval hA)

theorem over : Rows.tableMergesRow.holds Try.pinned (OpenSpec.ofChange Rows.tableMergesSpec) :=
  OpenClaim.holds_of_wide 10 Try.f10 rfl rfl rfl rfl rfl rfl rfl ⟨rfl, rfl, rfl, rfl, rfl⟩ rfl rfl rfl rfl rfl (by kernel_rfl) Try.func10 (by kernel_rfl)
    (of_decide_eq_true (by kernel_rfl)) (by unfold Func.isWrapper; first | (rw [if_pos (by decide +kernel)]; kernel_rfl) | (rw [if_neg (by decide +kernel)]; exact ⟨rfl, rfl⟩))
    (fun os started H enc _ => lifted os started H enc)

theorem proved : Rows.TableMergesSaid := over
#print axioms proved
end Go.Proofs.Ytogegnikpjcpdaa.tableMerges
