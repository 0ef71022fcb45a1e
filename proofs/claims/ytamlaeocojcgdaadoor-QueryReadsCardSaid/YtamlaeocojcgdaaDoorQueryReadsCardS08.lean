/- QsD -/
import Derived.Test.YtamlaeocojcgdaaDoorQueryReadsCardS07
/- viewref.readStep. -/
namespace Go.Proofs.YtamlaeocojcgdaaDoor
set_option linter.unusedVariables false
set_option linter.unusedSimpArgs false
open Go.ChangeShapes Go.WideShapes Go.ChangeAt Go.RowKit

abbrev verbsL : List (List UInt8) := [verbB 0, verbB 1, verbB 2, verbB 3, verbB 4, verbB 5, verbB 6, verbB 7, verbB 8, verbB 9]
theorem verbs_row {w : World} (h : VerbsAt w) : WRow w (some ⟨0, 0, none⟩) verbsL := by
  refine ⟨fun l hl => ?_, .inr ⟨_, 0, rfl, h.1, fun j u hu => ?_⟩⟩
  · simp only [List.mem_cons, List.not_mem_nil, or_false] at hl
    rcases hl with rfl | rfl | rfl | rfl | rfl | rfl | rfl | rfl | rfl | rfl <;> decide
  · rw [Nat.zero_add]
    have hj : j < 10 := by
      rcases Nat.lt_or_ge j 10 with q | q
      · exact q
      · rw [List.getElem?_eq_none (by simpa [wcells] using q)] at hu; cases hu
    have h2 := h.2 j (by omega)
    rw [h2]
    have hj' : j = 0 ∨ j = 1 ∨ j = 2 ∨ j = 3 ∨ j = 4 ∨ j = 5 ∨ j = 6 ∨ j = 7 ∨ j = 8 ∨ j = 9 := by omega
    rcases hj' with rfl | rfl | rfl | rfl | rfl | rfl | rfl | rfl | rfl | rfl <;> exact hu
theorem idxR_verbs (v : List UInt8) : (kindR v = 0 ∧ (idxR verbsL v = 0 ∨ idxR verbsL v = -1)) ∨ (1 ≤ kindR v ∧ kindR v ≤ 9 ∧ idxR verbsL v = kindR v) := by
  by_cases h0 : v = verbB 0
  · left; rw [h0]; decide
  · rcases kindR_out v with h | h | h | h | h | h | h | h | h | h
    rotate_right
    · left
      refine ⟨h.1, .inr (idxR_miss fun l hl => ?_)⟩
      obtain ⟨-, h1, h2, h3, h4, h5, h6, h7, h8, h9⟩ := h
      simp only [List.mem_cons, List.not_mem_nil, or_false] at hl
      rcases hl with rfl | rfl | rfl | rfl | rfl | rfl | rfl | rfl | rfl | rfl <;> assumption
    all_goals
      right
      refine ⟨by omega, by omega, ?_⟩
      rw [h.1, h.2]
      decide
/-! A known cell stands. -/
theorem qsc_drew {w : World} {a : Addr} {v : Value} (h : w.cell? a = some v) : w.drew.cell? a = some v := h
theorem qsc_alloc {w : World} {a : Addr} {v : Value} {o : Obj} (h : w.cell? a = some v) : (w.alloc o).cell? a = some v := (World.cell?_alloc_lt _ _ _ (World.block_lt_of_cell? w _ h)).trans h
theorem qsc {w : World} {X p g o : Nat} {v u : Value} (h : w.cell? ⟨g, o, none⟩ = some v) (hne : (X = g) = False) : (w.setCell ⟨X, p, none⟩ u).cell? ⟨g, o, none⟩ = some v :=
  (World.cell?_setCell_other _ _ _ _ (fun e => by have := congrArg Addr.block e; simp only at this; rw [hne] at this; exact this)).trans h
end Go.Proofs.YtamlaeocojcgdaaDoor
