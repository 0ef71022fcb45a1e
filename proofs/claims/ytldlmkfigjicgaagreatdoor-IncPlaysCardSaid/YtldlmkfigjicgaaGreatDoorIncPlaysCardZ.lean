/- Proved: viewlaw.IncPlays returns true for every input, and each argument reads behind the call as it read before. Conditions: the library's listed tables hold what the text lays in them (the row's cell laid; the card ties it). -/
import Derived.Test.YtldlmkfigjicgaaGreatDoorIncPlaysCardS24
import Derived.Test.YtldlmkfigjicgaaGreatDoorCards
import Derived.Test.YtldlmkfigjicgaaGreatDoorTie
namespace Go.Proofs.YtldlmkfigjicgaaGreatDoor.incPlays
set_option linter.unusedVariables false
open Go.ChangeShapes Go.WideShapes Go.ChangeAt Go.RowKit

theorem own : ownKnob Tryz.prog.godebug = none := by kernel_rfl
theorem laid : laidOutB Tryz.prog = true := by kernel_rfl
theorem rowed : Tryz.f5.params.toList.all (fun t => Tryz.prog.readableRec t && decide (t < Tryz.prog.types.size)) = true := by kernel_rfl
theorem rowed' : ∀ t ∈ Tryz.f5.params.toList, Tryz.prog.readableRec t = true ∧ t < Tryz.prog.types.size := fun t ht => by
  have h := List.all_eq_true.1 rowed t ht
  rw [Bool.and_eq_true, decide_eq_true_eq] at h
  exact h

set_option maxRecDepth 100000 in
theorem walk {H : Type} {enc : TypeId × Value → H} (W : World) (base : Nat) (args : Array Value) (ds : List (DataW H)) (ps : List MemPlace)
    (hval : ∀ (j : Nat) t v, Tryz.f5.params[j]? = some t → args[j]? = some v → Value.okWide Tryz.prog W .any base t v)
    (hA : DataW.TrodAll enc Tryz.prog W 0 (fun _ => true) true Tryz.f5.params.toList args.toList ds ps) (hlaid : laidMetH Tryz.prog listed W) :
    Calls Tryz.prog 5 args W fun e W' => e = .returned (.bool true) ∧ Below W.heap.size W W' := by
  rw [Tryz.params5] at hA hval
  obtain ⟨v0, vs0, e0, es0, p0, u0, hargs, rfl, rfl, h0, x0⟩ := trodAll_cons hA
  obtain ⟨v1, vs1, e1, es1, p1, u1, rfl, rfl, rfl, h1, x1⟩ := trodAll_cons x0
  obtain ⟨rfl, rfl, rfl⟩ := trodAll_nil x1
  obtain rfl : args = #[v0, v1] := by cases args; simp_all
  obtain ⟨A0, k0, L0, rfl, r0, l0⟩ := arg_steps (hval 0 43 v0 rfl rfl) h0
  obtain ⟨A1, k1, l1, rfl, r1, q1, m1⟩ := arg_foods (hval 1 50 v1 rfl rfl) h1
  exact incPlays_any L0 A0 k0 l1 A1 k1 W r0 l0 r1 q1 m1 (pow_of_laid hlaid)

set_option maxRecDepth 100000 in
theorem lifted (os : Os) (started : os.Started) (H : Type) (enc : TypeId × Value → H) :
    ReturnsInHanded {} Tryz.checked os 5 .any (fun w args => (Rows.incPlaysSpec.pre enc Tryz.prog Tryz.f5 [] false w args ∧ laidMetH Tryz.prog listed w) ∧ sizedMet enc Tryz.prog Tryz.f5 (OpenSpec.ofChange Rows.incPlaysSpec) false w args) (Rows.incPlaysSpec.post enc Tryz.prog Tryz.f5 false true false false) :=
  law_lifted_laid (C := Tryz.checked) own started (by kernel_rfl) Tryz.func5
    (ChangeSpec.witness_shaped (enc := enc) (C := Tryz.checked) (os := os) (X := fun w _ => laidMetH Tryz.prog listed w) false (World.doorLaid Tryz.prog 24 os) #[.slice none 0 0, .slice none 0 0] 8 rfl (World.shaped_of_RefB (by kernel_rfl) (by kernel_rfl)) (by kernel_rfl) (by kernel_rfl) (by kernel_rfl) (door_met os _))
    laid rowed' rfl Tryz.underlying4 rfl (fun es h => by match es, h with | [_, _], _ => rfl) (fun W base args ds ps hval hA hL => walk W base args ds ps hval hA hL)

theorem over : Rows.incPlaysRow.holds Tryz.pinned (OpenSpec.ofChange Rows.incPlaysSpec) :=
  OpenClaim.holds_of_wide 5 Tryz.f5 rfl rfl rfl rfl rfl rfl rfl ⟨rfl, rfl, rfl, rfl, rfl⟩ rfl rfl rfl rfl rfl (by kernel_rfl) Tryz.func5 (by kernel_rfl)
    (of_decide_eq_true (by kernel_rfl)) (by unfold Func.isWrapper; first | (rw [if_pos (by decide +kernel)]; kernel_rfl) | (rw [if_neg (by decide +kernel)]; exact ⟨rfl, rfl⟩))
    (fun os started H enc _ => lifted os started H enc)

theorem card : Claim7.holds Tryz.pinned (.plain (OpenSpec.ofChange Rows.incPlaysSpec)) Rows.incPlaysCard :=
  Claim7.holds_tied_plain_at .later [] [.data, .data, .data] true Rows.incPlaysCard.stood.harness false
    over (fun _ h => by cases h) (by kernel_rfl) (fun _ h => by cases h) incPlays_row_tie rfl ⟨rfl, rfl⟩ (by kernel_rfl) rfl
    (fun f fn hf hfn => by
      obtain rfl : f = 5 := (Option.some.inj ((show Tryz.prog.funcNamed Rows.incPlaysRow.func = some 5 by kernel_rfl).symm.trans hf)).symm
      obtain rfl : fn = Tryz.f5 := (Option.some.inj (Tryz.func5.symm.trans hfn)).symm
      exact ⟨by kernel_rfl, fun j t ht => by
        have hm : t ∈ Tryz.f5.params.toList := by simpa using Array.mem_of_getElem? ht
        have hall : (Tryz.f5.params.toList.all fun u => !Tryz.prog.wantsStandIn u) = true := by kernel_rfl
        exact (show Tryz.prog.wantsStandIn t = false by simpa using List.all_eq_true.1 hall t hm)⟩)
    (by kernel_rfl)

theorem proved : Rows.IncPlaysCardSaid := card
#print axioms proved
end Go.Proofs.YtldlmkfigjicgaaGreatDoor.incPlays
