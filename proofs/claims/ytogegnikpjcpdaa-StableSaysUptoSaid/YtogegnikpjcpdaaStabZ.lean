/- Proved: viewlaw.StableSays returns true for every input, and each argument reads behind the call as it read before. Conditions: what the arguments hold is of bulk at most 1048576 (the given second form). -/
import Derived.Test.YtogegnikpjcpdaaStabL
import Derived.Test.YtogegnikpjcpdaaOpenT
import Derived.Test.YtogegnikpjcpdaaFrameU
namespace Go.Proofs.Ytogegnikpjcpdaa.stableSays
set_option linter.unusedVariables false
open Go.ChangeShapes Go.WideShapes Go.ChangeAt Go.RowKit

theorem own : ownKnob Try.prog.godebug = none := by kernel_rfl
theorem laid : laidOutB Try.prog = true := by kernel_rfl
theorem rowed : Try.f8.params.toList.all (fun t => Try.prog.readableRec t && decide (t < Try.prog.types.size)) = true := by kernel_rfl
theorem rowed' : ∀ t ∈ Try.f8.params.toList, Try.prog.readableRec t = true ∧ t < Try.prog.types.size := fun t ht => by
  have h := List.all_eq_true.1 rowed t ht
  rw [Bool.and_eq_true, decide_eq_true_eq] at h
  exact h

set_option maxRecDepth 100000 in
theorem walk {H : Type} {enc : TypeId × Value → H} (W : World) (base : Nat) (args : Array Value) (ds : List (DataW H)) (ps : List MemPlace)
    (hval : ∀ (j : Nat) t v, Try.f8.params[j]? = some t → args[j]? = some v → Value.okWide Try.prog W .any base t v)
    (hA : DataW.TrodAll enc Try.prog W 0 (fun _ => true) true Try.f8.params.toList args.toList ds ps) (hbulk : Rows.uptoBulkAll ds ≤ 1048576) :
    Calls Try.prog 8 args W fun e W' => e = .returned (.bool true) ∧ Below W.heap.size W W' := by
  rw [Try.params8] at hA hval
  obtain ⟨v0, vs0, e0, es0, p0, u0, hargs, rfl, rfl, h0, x0⟩ := trodAll_cons hA
  obtain ⟨v1, vs1, e1, es1, p1, u1, rfl, rfl, rfl, h1, x1⟩ := trodAll_cons x0
  obtain ⟨rfl, rfl, rfl⟩ := trodAll_nil x1
  obtain rfl : args = #[v0, v1] := by cases args; simp_all
  obtain ⟨t0, A0, k0, B0, m0, rfl, r0, l0, q0, p0⟩ := arg_table (hval 0 59 v0 rfl rfl) h0
  obtain ⟨A1, k1, s1, rfl, r1, l1, b1⟩ := arg_ctxs (hval 1 51 v1 rfl rfl) h1
  simp only [Rows.uptoBulkAll] at hbulk
  exact ssays_any t0 A0 k0 B0 m0 s1 A1 k1 W r0 l0 q0 p0 r1 (by omega)

set_option maxRecDepth 100000 in
theorem lifted (os : Os) (started : os.Started) (H : Type) (enc : TypeId × Value → H) (F : Stop.Interp) :
    ReturnsInHanded {} Try.checked os 8 .any ((Rows.OpenSpec.upto Rows.stableSaysSpec).pre6 enc Try.prog Try.f8 Rows.stableSaysUptoRow.domain false) (((Rows.OpenSpec.upto Rows.stableSaysSpec).at F).post enc Try.prog Try.f8 false true false false) :=
  law_lifted_upto (C := Try.checked) own started (by kernel_rfl) Try.func8
    (OpenSpec.witness (enc := enc) (C := Try.checked) (s := Rows.OpenSpec.upto Rows.stableSaysSpec) (k := Rows.uptoSmall) rfl false ⟨#[], #[.agg #[.int .i64 0, .int .i64 0, .int .i64 0, .int .i64 0, .slice none 0 0, .slice none 0 0], .slice none 0 0], []⟩ 8 (by kernel_rfl) (by kernel_rfl) (by kernel_rfl)
      (x := ([.agg [.agg [.agg [.lit (.int .i64 0), .lit (.int .i64 0), .lit (.int .i64 0), .lit (.int .i64 0)], .nil], .nil], .nil], [], [])) (by kernel_rfl) rfl (by kernel_rfl))
    laid rowed' rfl Try.underlying4 rfl (fun es h => by match es, h with | [_, _], _ => rfl) (fun W base args ds ps hval hA hb => walk W base args ds ps hval hA hb)

theorem over : Rows.stableSaysUptoRow.holds Try.pinned (Rows.OpenSpec.upto Rows.stableSaysSpec) :=
  OpenClaim.holds_of_cond 8 Try.f8 rfl rfl rfl rfl rfl rfl rfl ⟨rfl, rfl, rfl, rfl, rfl⟩ rfl rfl rfl rfl rfl (by kernel_rfl) Try.func8 (by kernel_rfl)
    (of_decide_eq_true (by kernel_rfl)) (by unfold Func.isWrapper; first | (rw [if_pos (by decide +kernel)]; kernel_rfl) | (rw [if_neg (by decide +kernel)]; exact ⟨rfl, rfl⟩))
    (fun os started H enc _ F => lifted os started H enc F)

theorem proved : Rows.StableSaysUptoSaid := over
#print axioms proved
end Go.Proofs.Ytogegnikpjcpdaa.stableSays
