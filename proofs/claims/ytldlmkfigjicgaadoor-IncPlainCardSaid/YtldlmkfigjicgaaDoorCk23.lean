/- IcP -/
import Derived.Test.YtldlmkfigjicgaaDoorCk18
import Derived.Test.YtldlmkfigjicgaaDoorCk22
import Derived.Test.YtldlmkfigjicgaaDoorCk21
import Derived.Test.YtldlmkfigjicgaaDoorCk19
/- viewkeep.IncPlain. -/
namespace Go.Proofs.YtldlmkfigjicgaaDoor
set_option linter.unusedVariables false
set_option linter.unusedSimpArgs false
open Go.ChangeShapes Go.WideShapes Go.ChangeAt Go.RowKit

theorem totOk_small {M : List IR} {l : List It} (e : its M = l) (h : l.length ≤ 1200 ∧ ∀ x ∈ l, x.1.length ≤ 8 ∧ ∀ n ∈ x.1, -1073741824 ≤ n ∧ n ≤ 1073741824) : TotOk M := by
  subst e
  have hx : ∀ x ∈ M, x.row.length ≤ 8 ∧ ∀ n ∈ x.row, -1073741824 ≤ n ∧ n ≤ 1073741824 := fun x hx => h.2 x.it (List.mem_map.2 ⟨x, hx, rfl⟩)
  refine ⟨by have := h.1; rw [its_len] at this; omega, fun x q => by have := (hx x q).1; omega, fun x q n hn => by have := (hx x q).2 n hn; omega⟩
theorem set_len4 {M : List IR} {l : List It} (e : its M = l) (h : setI l = 0) : M.length ≤ 400 := by
  have := (setI_zero.1 h).1
  rw [← e, its_len] at this
  exact this
end Go.Proofs.YtldlmkfigjicgaaDoor
