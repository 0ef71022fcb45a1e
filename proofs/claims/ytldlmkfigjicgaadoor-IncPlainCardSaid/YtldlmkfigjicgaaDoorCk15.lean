/- IvE -/
import Derived.Test.YtldlmkfigjicgaaDoorCk14
/- inc.turn.step. -/
namespace Go.Proofs.YtldlmkfigjicgaaDoor
set_option linter.unusedVariables false
set_option linter.unusedSimpArgs false
open Go.ChangeShapes Go.WideShapes Go.ChangeAt Go.RowKit

theorem moreL_len {s : St} {A B a b : List It} (la : a.length ≤ 800) (lb : b.length ≤ 800) (lA : A.length ≤ 400) (lB : B.length ≤ 400) : (moreL s A B a b).length ≤ 1280000 := by
  unfold moreL
  split
  · unfold linL
    repeat' split
    · exact Nat.le_trans (List.length_filter_le _ _) (by omega)
    · unfold pickL; rw [List.length_map]; omega
    · rw [List.length_append]; omega
    · rw [List.length_append, negL, List.length_map]; omega
    · simp
  · split
    · rw [List.length_append, List.length_append]
      have := Nat.le_trans (joinL_len s a B) (Nat.mul_le_mul la lB)
      have := Nat.le_trans (joinL_len s A b) (Nat.mul_le_mul lA lb)
      have := Nat.le_trans (joinL_len s a b) (Nat.mul_le_mul la lb)
      omega
    · split
      · unfold distD; rw [List.length_map]
        exact Nat.le_trans (List.length_filter_le _ _) (by omega)
      · split
        · have := grpMore_len s A a; omega
        · simp
theorem dsets_at {D : List LR} {i : Nat} (h : i < D.length) : (D.map (fun y => its y.L)).getD i [] = its D[i].L := by
  rw [List.getD_eq_getElem?_getD, List.getElem?_map, List.getElem?_eq_getElem h]; rfl
/-- What a step of a turn leaves. -/
def StepPost (v : VR) (W0 : World) (tb vp : Nat) (D : List LR) (X : List NR) (l S : List It) (w : World) (e : Ending) (w' : World) : Prop :=
  e = .returned (.int .i64 (doneE S)) ∧ Below W0.heap.size W0 w' ∧ (doneE S = 0 → ∃ (y : LR) (z : NR) (dA : Option Addr) (dk : Nat) (xA : Option Addr) (xk : Nat), its y.L = l ∧ its z.L = S ∧ TurnAt w' W0.heap.size tb vp v.Q dA dk (D ++ [y]) xA xk (X ++ [z]) (boxD dA dk (D ++ [y])) (boxX xA xk (X ++ [z])))
/-- What its list is, ahead of its sum. -/
def CMPost (s : St) (LM : List It) (N S : Int → Int) (w : World) (e : Ending) (w' : World) : Prop :=
  ∃ (P : Option Addr) (k : Nat) (M : List IR) (g : Option Nat), e = .returned (.tuple #[.slice P M.length k, .map g]) ∧ (its M).Perm LM ∧ RowI w' w'.heap.size P M ∧ (s.kind = 8 ∨ s.kind = 9 → ∃ gb, g = some gb ∧ GM w' gb N S) ∧ Below w.heap.size w w'
theorem step_end {v : VR} {W0 w w7 : World} {tb vp : Nat} {D : List LR} {X : List NR} {l S : List It} {y : LR} {z : NR} {A5 A8 dA xA : Option Addr} {k5 k8 dk xk : Nat} {E : Int}
    (c : TurnAt w7 W0.heap.size tb vp v.Q A5 k5 (D ++ [y]) A8 k8 (X ++ [z]) (boxD dA dk D) (boxX xA xk X)) (hB : Below W0.heap.size W0 w7) (hE : E = doneE S) (hy : its y.L = l) (hz : E = 0 → its z.L = S) :
    StepPost v W0 tb vp D X l S w (.returned (.int .i64 E)) ((w7.setCell ⟨tb, 1, none⟩ (.slice A5 (D.length + 1) k5)).setCell ⟨tb, 2, none⟩ (.slice A8 (X.length + 1) k8)) := by
  refine ⟨by rw [hE], (hB.setCell (p := ⟨tb, 1, none⟩) c.tlo _).setCell (p := ⟨tb, 2, none⟩) c.tlo _, fun h0 => ⟨y, z, A5, k5, A8, k8, hy, hz (by rw [hE]; exact h0), ?_⟩⟩
  have c1 := c.set 1 (.slice A5 (D.length + 1) k5) (bd' := boxD A5 k5 (D ++ [y])) (bx' := boxX xA xk X) (by simp [boxD])
  exact c1.set 2 (.slice A8 (X.length + 1) k8) (by simp [boxX])
end Go.Proofs.YtldlmkfigjicgaaDoor
