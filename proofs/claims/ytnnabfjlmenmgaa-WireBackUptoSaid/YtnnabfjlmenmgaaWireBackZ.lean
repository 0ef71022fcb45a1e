/- Wkz -/
import Derived.Test.YtnnabfjlmenmgaaCk14
import Derived.Test.YtnnabfjlmenmgaaCk13
/- Proved: viewkeep.WireBack returns true for every input, and each argument reads behind the call as it read before. Conditions: what the arguments hold is of bulk at most 1048576 (the given second form). -/
namespace Go.Proofs.Ytnnabfjlmenmgaa.wireBack
set_option linter.unusedVariables false
open Go.ChangeShapes Go.WideShapes Go.ChangeAt Go.RowKit

theorem own : ownKnob Try.prog.godebug = none := by kernel_rfl
theorem laid : laidOutB Try.prog = true := by kernel_rfl
theorem rowed : Try.f5.params.toList.all (fun t => Try.prog.readableRec t && decide (t < Try.prog.types.size)) = true := by kernel_rfl
theorem rowed' : ∀ t ∈ Try.f5.params.toList, Try.prog.readableRec t = true ∧ t < Try.prog.types.size := fun t ht => by
  have h := List.all_eq_true.1 rowed t ht
  rw [Bool.and_eq_true, decide_eq_true_eq] at h
  exact h

set_option maxRecDepth 100000 in
theorem walk {H : Type} {enc : TypeId × Value → H} (W : World) (base : Nat) (args : Array Value) (ds : List (DataW H)) (ps : List MemPlace)
    (hval : ∀ (j : Nat) t v, Try.f5.params[j]? = some t → args[j]? = some v → Value.okWide Try.prog W .any base t v)
    (hA : DataW.TrodAll enc Try.prog W 0 (fun _ => true) true Try.f5.params.toList args.toList ds ps) (hbulk : Rows.uptoBulkAll ds ≤ 1048576) :
    Calls Try.prog 5 args W fun e W' => e = .returned (.bool true) ∧ Below W.heap.size W W' := by
  rw [Try.params5] at hA hval
  obtain ⟨v0, vs0, e0, es0, p0, u0, hargs, rfl, rfl, h0, x0⟩ := trodAll_cons hA
  obtain ⟨v1, vs1, e1, es1, p1, u1, rfl, rfl, rfl, h1, x1⟩ := trodAll_cons x0
  obtain ⟨v2, vs2, e2, es2, p2, u2, rfl, rfl, rfl, h2, x2⟩ := trodAll_cons x1
  obtain ⟨rfl, rfl, rfl⟩ := trodAll_nil x2
  obtain rfl : args = #[v0, v1, v2] := by cases args; simp_all
  obtain ⟨X0, Y0, rfl, r0, p0⟩ := arg_packet (hval 0 31 v0 rfl rfl) h0
  obtain ⟨S1, rfl, b1⟩ := arg_strU (hval 1 9 v1 rfl rfl) h1
  obtain ⟨n2, rfl, w2⟩ := arg_int (hval 2 3 v2 rfl rfl) h2
  simp only [Rows.uptoBulkAll] at hbulk
  exact wireBack_any X0 Y0 S1 n2 W r0 p0 (by omega) (int_wf w2)

set_option maxRecDepth 100000 in
theorem lifted (os : Os) (started : os.Started) (H : Type) (enc : TypeId × Value → H) (F : Stop.Interp) :
    ReturnsInHanded {} Try.checked os 5 .any ((Rows.OpenSpec.upto Rows.wireBackSpec).pre6 enc Try.prog Try.f5 Rows.wireBackUptoRow.domain false) (((Rows.OpenSpec.upto Rows.wireBackSpec).at F).post enc Try.prog Try.f5 false true false false) :=
  law_lifted_upto (C := Try.checked) own started (by kernel_rfl) Try.func5
    (OpenSpec.witness (enc := enc) (C := Try.checked) (s := Rows.OpenSpec.upto Rows.wireBackSpec) (k := Rows.uptoSmall) rfl false ⟨#[], #[.agg #[.int .i64 0, .int .i64 0, .int .i64 0, .int .i64 0, .slice none 0 0, .slice none 0 0, .int .i64 0, .int .i64 0, .int .i64 0, .int .i64 0, .slice none 0 0, .slice none 0 0], .string ⟨#[]⟩, .int .i64 0], []⟩ 8 (by kernel_rfl) (by kernel_rfl) (by kernel_rfl)
      (x := ([.agg [.agg [.agg [.agg [.agg [.lit (.int .i64 0), .lit (.int .i64 0), .lit (.int .i64 0), .lit (.int .i64 0)], .nil], .nil], .agg [.agg [.agg [.lit (.int .i64 0), .lit (.int .i64 0), .lit (.int .i64 0), .lit (.int .i64 0)], .nil], .nil]]], .lit (.string []), .lit (.int .i64 0)], [], [])) (by kernel_rfl) rfl (by kernel_rfl))
    laid rowed' rfl Try.underlying4 rfl (fun es h => by match es, h with | [_, _, _], _ => rfl) (fun W base args ds ps hval hA hb => walk W base args ds ps hval hA hb)

theorem over : Rows.wireBackUptoRow.holds Try.pinned (Rows.OpenSpec.upto Rows.wireBackSpec) :=
  OpenClaim.holds_of_cond 5 Try.f5 rfl rfl rfl rfl rfl rfl rfl ⟨rfl, rfl, rfl, rfl, rfl⟩ rfl rfl rfl rfl rfl (by kernel_rfl) Try.func5 (by kernel_rfl)
    (of_decide_eq_true (by kernel_rfl)) (by unfold Func.isWrapper; first | (rw [if_pos (by decide +kernel)]; kernel_rfl) | (rw [if_neg (by decide +kernel)]; exact ⟨rfl, rfl⟩))
    (fun os started H enc _ F => lifted os started H enc F)

theorem proved : Rows.WireBackUptoSaid := over
#print axioms proved
end Go.Proofs.Ytnnabfjlmenmgaa.wireBack
