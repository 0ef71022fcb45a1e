/- TWnz -/
import Derived.Test.YtogegnikpjcpdaaCk19
import Derived.Test.YtogegnikpjcpdaaCk18
import Derived.Test.YtogegnikpjcpdaaCk13
/- Proved: viewkeep.TableWins returns true for every input, and each argument reads behind the call as it read before. Conditions: none. -/
namespace Go.Proofs.Ytogegnikpjcpdaa.tableWins
set_option linter.unusedVariables false
open Go.ChangeShapes Go.WideShapes Go.ChangeAt Go.RowKit

theorem own : ownKnob Try.prog.godebug = none := by kernel_rfl
theorem laid : laidOutB Try.prog = true := by kernel_rfl
theorem rowed : Try.f13.params.toList.all (fun t => Try.prog.readableRec t && decide (t < Try.prog.types.size)) = true := by kernel_rfl
theorem rowed' : ∀ t ∈ Try.f13.params.toList, Try.prog.readableRec t = true ∧ t < Try.prog.types.size := fun t ht => by
  have h := List.all_eq_true.1 rowed t ht
  rw [Bool.and_eq_true, decide_eq_true_eq] at h
  exact h

set_option maxRecDepth 100000 in
theorem walk {H : Type} {enc : TypeId × Value → H} (W : World) (base : Nat) (args : Array Value) (ds : List (DataW H)) (ps : List MemPlace)
    (hval : ∀ (j : Nat) t v, Try.f13.params[j]? = some t → args[j]? = some v → Value.okWide Try.prog W .any base t v)
    (hA : DataW.TrodAll enc Try.prog W 0 (fun _ => true) true Try.f13.params.toList args.toList ds ps) :
    Calls Try.prog 13 args W fun e W' => e = .returned (.bool true) ∧ Below W.heap.size W W' := by
  rw [Try.params13] at hA hval
  obtain ⟨v0, vs0, e0, es0, p0, u0, hargs, rfl, rfl, h0, x0⟩ := trodAll_cons hA
  obtain ⟨v1, vs1, e1, es1, p1, u1, rfl, rfl, rfl, h1, x1⟩ := trodAll_cons x0
  obtain ⟨v2, vs2, e2, es2, p2, u2, rfl, rfl, rfl, h2, x2⟩ := trodAll_cons x1
  obtain ⟨v3, vs3, e3, es3, p3, u3, rfl, rfl, rfl, h3, x3⟩ := trodAll_cons x2
  obtain ⟨v4, vs4, e4, es4, p4, u4, rfl, rfl, rfl, h4, x4⟩ := trodAll_cons x3
  obtain ⟨rfl, rfl, rfl⟩ := trodAll_nil x4
  obtain rfl : args = #[v0, v1, v2, v3, v4] := by cases args; simp_all
  obtain ⟨A0, k0, s0, rfl, r0, l0, b0⟩ := arg_edits (hval 0 80 v0 rfl rfl) h0
  obtain ⟨n1, rfl, w1⟩ := arg_int (hval 1 3 v1 rfl rfl) h1
  obtain ⟨n2, rfl, w2⟩ := arg_int (hval 2 3 v2 rfl rfl) h2
  obtain ⟨n3, rfl, w3⟩ := arg_int (hval 3 3 v3 rfl rfl) h3
  obtain ⟨n4, rfl, w4⟩ := arg_int (hval 4 3 v4 rfl rfl) h4
  exact twn_any s0 A0 k0 n1 n2 n3 n4 W r0 l0 b0

set_option maxRecDepth 100000 in
theorem lifted (os : Os) (started : os.Started) (H : Type) (enc : TypeId × Value → H) :
    ReturnsInHanded {} Try.checked os 13 .any (Rows.tableWinsSpec.pre6 enc Try.prog Try.f13 Rows.tableWinsRow.domain false) (Rows.tableWinsSpec.post enc Try.prog Try.f13 false true false false) :=
  law_lifted (C := Try.checked) own started (by kernel_rfl) Try.func13
    (ChangeSpec.witness6 (enc := enc) (C := Try.checked) false ⟨#[], #[.slice none 0 0, .int .i64 0, .int .i64 0, .int .i64 0, .int .i64 0], []⟩ 8 (by kernel_rfl) (by kernel_rfl) (by kernel_rfl) (by kernel_rfl))
    laid rowed' rfl Try.underlying4 rfl (fun es h => by match es, h with | [_, _, _, _, _], _ => rfl) (fun W base args ds ps hval hA => walk W base args ds ps hval hA)

theorem over : Rows.tableWinsRow.holds Try.pinned (OpenSpec.ofChange Rows.tableWinsSpec) :=
  OpenClaim.holds_of_wide 13 Try.f13 rfl rfl rfl rfl rfl rfl rfl ⟨rfl, rfl, rfl, rfl, rfl⟩ rfl rfl rfl rfl rfl (by kernel_rfl) Try.func13 (by kernel_rfl)
    (of_decide_eq_true (by kernel_rfl)) (by unfold Func.isWrapper; first | (rw [if_pos (by decide +kernel)]; kernel_rfl) | (rw [if_neg (by decide +kernel)]; exact ⟨rfl, rfl⟩))
    (fun os started H enc _ => lifted os started H enc)

theorem proved : Rows.TableWinsSaid := over
#print axioms proved
end Go.Proofs.Ytogegnikpjcpdaa.tableWins
