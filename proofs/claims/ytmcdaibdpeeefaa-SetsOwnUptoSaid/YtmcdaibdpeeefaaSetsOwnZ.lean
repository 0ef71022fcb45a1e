/- Soz -/
import Derived.Test.YtmcdaibdpeeefaaCk16
import Derived.Test.YtmcdaibdpeeefaaCk07
/- Proved: viewkeep.SetsOwn returns true for every input, and each argument reads behind the call as it read before. Conditions: what the arguments hold is of bulk at most 1048576 (the given second form). -/
namespace Go.Proofs.Ytmcdaibdpeeefaa.setsOwn
set_option linter.unusedVariables false
open Go.ChangeShapes Go.WideShapes Go.ChangeAt Go.RowKit

theorem own : ownKnob Try.prog.godebug = none := by kernel_rfl
theorem laid : laidOutB Try.prog = true := by kernel_rfl
theorem rowed : Try.f7.params.toList.all (fun t => Try.prog.readableRec t && decide (t < Try.prog.types.size)) = true := by kernel_rfl
theorem rowed' : ∀ t ∈ Try.f7.params.toList, Try.prog.readableRec t = true ∧ t < Try.prog.types.size := fun t ht => by
  have h := List.all_eq_true.1 rowed t ht
  rw [Bool.and_eq_true, decide_eq_true_eq] at h
  exact h

set_option maxRecDepth 100000 in
theorem walk {H : Type} {enc : TypeId × Value → H} (W : World) (base : Nat) (args : Array Value) (ds : List (DataW H)) (ps : List MemPlace)
    (hval : ∀ (j : Nat) t v, Try.f7.params[j]? = some t → args[j]? = some v → Value.okWide Try.prog W .any base t v)
    (hA : DataW.TrodAll enc Try.prog W 0 (fun _ => true) true Try.f7.params.toList args.toList ds ps) (hbulk : Rows.uptoBulkAll ds ≤ 1048576) :
    Calls Try.prog 7 args W fun e W' => e = .returned (.bool true) ∧ Below W.heap.size W W' := by
  rw [Try.params7] at hA hval
  obtain ⟨v0, vs0, e0, es0, p0, u0, hargs, rfl, rfl, h0, x0⟩ := trodAll_cons hA
  obtain ⟨v1, vs1, e1, es1, p1, u1, rfl, rfl, rfl, h1, x1⟩ := trodAll_cons x0
  obtain ⟨v2, vs2, e2, es2, p2, u2, rfl, rfl, rfl, h2, x2⟩ := trodAll_cons x1
  obtain ⟨v3, vs3, e3, es3, p3, u3, rfl, rfl, rfl, h3, x3⟩ := trodAll_cons x2
  obtain ⟨rfl, rfl, rfl⟩ := trodAll_nil x3
  obtain rfl : args = #[v0, v1, v2, v3] := by cases args; simp_all
  obtain ⟨A0, k0, L0, rfl, r0, l0⟩ := arg_steps (hval 0 40 v0 rfl rfl) h0
  obtain ⟨A1, k1, M1, rfl, r1, l1, b1, q1⟩ := arg_itemsM (hval 1 22 v1 rfl rfl) h1
  obtain ⟨A2, k2, M2, rfl, r2, l2, b2, q2⟩ := arg_itemsM (hval 2 22 v2 rfl rfl) h2
  obtain ⟨A3, k3, s3, rfl, r3, l3⟩ := arg_ints (hval 3 26 v3 rfl rfl) h3
  simp only [Rows.uptoBulkAll] at hbulk
  exact setsOwn_any L0 A0 k0 M1 M2 A1 A2 k1 k2 s3 A3 k3 W r0 l0 r1 (by omega) (fun x hx => by have := q1 x hx; omega) r2 (by omega) (fun x hx => by have := q2 x hx; omega) r3 l3

set_option maxRecDepth 100000 in
theorem lifted (os : Os) (started : os.Started) (H : Type) (enc : TypeId × Value → H) (F : Stop.Interp) :
    ReturnsInHanded {} Try.checked os 7 .any ((Rows.OpenSpec.upto Rows.setsOwnSpec).pre6 enc Try.prog Try.f7 Rows.setsOwnUptoRow.domain false) (((Rows.OpenSpec.upto Rows.setsOwnSpec).at F).post enc Try.prog Try.f7 false true false false) :=
  law_lifted_upto (C := Try.checked) own started (by kernel_rfl) Try.func7
    (OpenSpec.witness (enc := enc) (C := Try.checked) (s := Rows.OpenSpec.upto Rows.setsOwnSpec) (k := Rows.uptoSmall) rfl false ⟨#[], #[.slice none 0 0, .slice none 0 0, .slice none 0 0, .slice none 0 0], []⟩ 8 (by kernel_rfl) (by kernel_rfl) (by kernel_rfl)
      (x := ([.nil, .nil, .nil, .nil], [], [])) (by kernel_rfl) rfl (by kernel_rfl))
    laid rowed' rfl Try.underlying4 rfl (fun es h => by match es, h with | [_, _, _, _], _ => rfl) (fun W base args ds ps hval hA hb => walk W base args ds ps hval hA hb)

theorem over : Rows.setsOwnUptoRow.holds Try.pinned (Rows.OpenSpec.upto Rows.setsOwnSpec) :=
  OpenClaim.holds_of_cond 7 Try.f7 rfl rfl rfl rfl rfl rfl rfl ⟨rfl, rfl, rfl, rfl, rfl⟩ rfl rfl rfl rfl rfl (by kernel_rfl) Try.func7 (by kernel_rfl)
    (of_decide_eq_true (by kernel_rfl)) (by unfold Func.isWrapper; first | (rw [if_pos (by decide +kernel)]; kernel_rfl) | (rw [if_neg (by decide +kernel)]; exact ⟨rfl, rfl⟩))
    (fun os started H enc _ F => lifted os started H enc F)

theorem proved : Rows.SetsOwnUptoSaid := over
#print axioms proved
end Go.Proofs.Ytmcdaibdpeeefaa.setsOwn
