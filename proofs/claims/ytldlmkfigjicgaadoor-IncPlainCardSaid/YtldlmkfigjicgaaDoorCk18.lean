/- IvL, IvP -/
import Derived.Test.YtldlmkfigjicgaaDoorCk17
import Derived.Test.YtldlmkfigjicgaaDoorCk08
/- viewkeep.kept0. -/
namespace Go.Proofs.YtldlmkfigjicgaaDoor
set_option linter.unusedVariables false
set_option linter.unusedSimpArgs false
open Go.ChangeShapes Go.WideShapes Go.ChangeAt Go.RowKit

abbrev q0 : List St := [⟨1, 0, 0, 0, 0, 0, []⟩, ⟨8, 0, 0, 1, 0, 0, []⟩]
theorem q0_ok : queryE q0 = 0 := by decide +kernel
abbrev f1 : List It := [([1, 5, 0, 0], 1)]
abbrev f2 : List It := [([2, 5, 0, 0], 1)]
abbrev f12 : List It := [([1, 5, 0, 0], 1), ([2, 5, 0, 0], 1)]
theorem kept_1 : (VS.start q0).feedE f1 [] = 0 := by decide +kernel
theorem kept_v1 : (VS.start q0).fed f1 [] = ⟨q0, f1, [], [f1, [([5, 1], 1)]]⟩ := by kernel_rfl
theorem kept_s : setI f12 = 0 := by decide +kernel
theorem kept_d : doneE f12 = 0 := by decide +kernel
theorem kept_sum : sumL (f1 ++ f2) = f12 := sumL_strict (setI_zero.1 kept_s).2.2
theorem kept_sum' : sumL f12 = f12 := sumL_strict (setI_zero.1 kept_s).2.2
theorem kept_g : stL ⟨8, 0, 0, 1, 0, 0, []⟩ f12 f12 = [([5, 2], 1)] := by decide +kernel
theorem kept_5 : setI [([5, 2], 1)] = 0 := by decide +kernel
theorem kept_5s : sumL [([5, 2], 1)] = [([5, 2], 1)] := sumL_strict (setI_zero.1 kept_5).2.2
theorem kept_G (T : List It) : setsG f12 T q0 [] = (0, [f12, [([5, 2], 1)]]) := by
  have e1 : atL f12 T ⟨1, 0, 0, 0, 0, 0, []⟩ [] = f12 := rfl
  have e2 : atL f12 T ⟨8, 0, 0, 1, 0, 0, []⟩ [f12] = [([5, 2], 1)] := kept_g
  have d2 : doneE [([5, 2], 1)] = 0 := by decide +kernel
  rw [setsG, e1, kept_sum', if_neg (by rw [kept_d]; simp), List.nil_append, setsG, e2, kept_5s, if_neg (by rw [d2]; simp), setsG]
  rfl
theorem kept_2 : (⟨q0, f1, [], [f1, [([5, 1], 1)]]⟩ : VS).feedE f2 [] = 0 := VS.feedE_zero (by decide +kernel)
  (addE_zero.2 ⟨by decide +kernel, by decide +kernel, by show doneE (sumL (f1 ++ f2)) = 0; rw [kept_sum]; exact kept_d⟩) (by decide +kernel)
  (by show (setsG (sumL (f1 ++ f2)) (sumL ([] ++ [])) q0 []).1 = 0; rw [kept_sum, kept_G])
theorem kept_6 : setI [([5, 1], -1), ([5, 2], 1)] = 0 := by decide +kernel
theorem kept_3 : (⟨q0, f1, [], [f1, [([5, 1], 1)]]⟩ : VS).more f2 [] = [([5, 1], -1), ([5, 2], 1)] := by
  unfold VS.more
  rw [if_pos kept_2, VS.fed_eq kept_2]
  have e : setsG (sumL (f1 ++ f2)) (sumL ([] ++ [])) q0 [] = (0, [f12, [([5, 2], 1)]]) := by rw [kept_sum, kept_G]
  show subL [([5, 1], 1)] (((setsG (sumL (f1 ++ f2)) (sumL ([] ++ [])) q0 []).2).getLastD []) = _
  rw [e]
  show sumL [([5, 2], 1), ([5, 1], -1)] = _
  rw [← sumL_strict (setI_zero.1 kept_6).2.2]
  refine sumL_same fun r => ?_
  unfold wt
  rw [tot_perm (List.Perm.swap _ _ _)]
theorem RowI.nil' (w : World) (A : Option Addr) : RowI w w.heap.size A [] := ⟨.inl rfl, fun x hx => by simp at hx⟩
end Go.Proofs.YtldlmkfigjicgaaDoor
/- viewkeep.IncParts. -/
namespace Go.Proofs.YtldlmkfigjicgaaDoor
set_option linter.unusedVariables false
set_option linter.unusedSimpArgs false
open Go.ChangeShapes Go.WideShapes Go.ChangeAt Go.RowKit

theorem addX_len {a b : List It} {M : List IR} (h : addE a b = 0) (hM : its M = addX a b) : M.length ≤ 400 := by
  have h1 := done_set (addE_zero.1 h).2.2
  unfold addX at hM
  rw [if_pos h] at hM
  rw [← hM] at h1
  have := (setI_zero.1 h1).1
  rwa [its_len] at this
theorem SetIn.fed {w w' : World} {vp lo : Nat} {v : VR} {A : Option Addr} {k : Nat} {L : List IR} (h : SetIn w lo A k L) (hv : v.at_ w vp) (hg : w.grownBy w' (some vp)) : SetIn w' lo A k L := by
  have hst : ∀ T, T ≠ 70 → Stand T w w' := fun T hne => Stand.grown hg fun g cur d hc q => by
    injection q with q
    subst q
    have := hv.box
    unfold Blk at this
    rw [hc] at this
    injection this with this
    injection this with _ this _
    exact hne this
  exact h.stand (hst _ (by decide)) (hst _ (by decide)) hg.size
end Go.Proofs.YtldlmkfigjicgaaDoor
