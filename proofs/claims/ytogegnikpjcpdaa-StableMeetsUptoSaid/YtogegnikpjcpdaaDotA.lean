/- Contracts of the small functions of the packages cmp and dot. -/
import Derived.Test.YtogegnikpjcpdaaRows
import Derived.Test.YtogegnikpjcpdaaBase
import Derived.Outline
import Derived.StillTail
import Derived.StillTactics
namespace Go.Proofs.Ytogegnikpjcpdaa
set_option linter.unusedVariables false
open Go.ChangeShapes Go.WideShapes Go.ChangeAt Go.RowKit

def inB (n lo hi : Int) : Bool := decide (lo ≤ n) && decide (n ≤ hi)

theorem in_any (n lo hi : Int) (w : World) :
    Calls Try.prog 21 #[.int .i64 n, .int .i64 lo, .int .i64 hi] w fun e w' => e = .returned (.bool (inB n lo hi)) ∧ w = w' := by
  go_enter Try.func21, Try.ntmps21
  go_wp2
  all_goals go_ret
  all_goals (refine ⟨?_, rfl⟩; first | (simp [inB, *]; done) | (simp [inB, *]; omega) | (simp [inB]; omega))

def rightB (n s : Int) : Bool := decide (0 ≤ n) && decide (n < 4) && decide (1 ≤ s) && decide (s ≤ 1099511627776)

theorem right_any (n s : Int) (w : World) :
    Calls Try.prog 63 #[.agg #[.int .i64 n, .int .i64 s]] w fun e w' => e = .returned (.bool (rightB n s)) ∧ Below w.heap.size w w' := by
  go_enter Try.func63, Try.ntmps63
  go_wp2
  all_goals go_ret
  all_goals (refine ⟨?_, by go_grown⟩; first | (simp [rightB, *]; done) | (simp [rightB, *]; omega) | (simp [rightB]; omega))

theorem isNaN_any (n : Int) (w : World) :
    Calls Try.prog 104 #[.int .i64 n] w fun e w' => e = .returned (.bool false) ∧ w = w' := by
  go_enter Try.func104, Try.ntmps104
  go_wp2
  all_goals go_ret
  all_goals exact ⟨by simp, rfl⟩

def cmpI (x y : Int) : Int := if x < y then -1 else if y < x then 1 else 0

theorem compare_any (x y : Int) (w : World) :
    Calls Try.prog 96 #[.int .i64 x, .int .i64 y] w fun e w' => e = .returned (.int .i64 (cmpI x y)) ∧ w = w' := by
  go_enter Try.func96, Try.ntmps96
  go_wp2_with (go_at_call 104; refine (isNaN_any _ _).mono ?_; rintro e w' ⟨rfl, rfl⟩)
  all_goals go_ret
  all_goals (refine ⟨?_, rfl⟩; first | (simp [cmpI, *]; done) | (simp [cmpI, *]; omega) | (simp [cmpI]; omega))

def or2 (x y : Int) : Int := if x = 0 then y else x

theorem or_any (b : Nat) (x y : Int) (w : World) (h0 : w.cell? ⟨b, 0, none⟩ = some (.int .i64 x)) (h1 : w.cell? ⟨b, 1, none⟩ = some (.int .i64 y)) :
    Calls Try.prog 95 #[.slice (some ⟨b, 0, none⟩) 2 2] w fun e w' => e = .returned (.int .i64 (or2 x y)) ∧ w = w' := by
  go_enter Try.func95, Try.ntmps95
  go_wp2
  go_rounds 3
  all_goals go_ret
  all_goals (refine ⟨?_, rfl⟩; simp_all [or2])

def dotCmp (a b : Int × Int) : Int := or2 (cmpI a.1 b.1) (cmpI a.2 b.2)

set_option maxRecDepth 100000 in
theorem order_ints (a0 a1 b0 b1 : Int) (w : World) :
    Calls Try.prog 66 #[.agg #[.int .i64 a0, .int .i64 a1], .agg #[.int .i64 b0, .int .i64 b1]] w fun e w' => e = .returned (.int .i64 (or2 (cmpI a0 b0) (cmpI a1 b1))) ∧ Below w.heap.size w w' := by
  go_enter Try.func66, Try.ntmps66
  go_wp2
  refine region_tail 10 (by kernel_rfl) (by kernel_rfl) ?_
  simp only [List.take_succ_cons, List.take_zero, List.drop_succ_cons, List.drop_zero]
  repeat (first | still_step | still_call ((compare_any _ _ _).mono fun _ _ ⟨h1, h2⟩ => ⟨h1, h2.symm⟩))
  refine wpStill_nil ?_
  go_wp2_with (go_at_call 95; refine (or_any _ (cmpI a0 b0) (cmpI a1 b1) _ (by simp [go_sem]) (by simp [go_sem])).mono ?_; rintro e w' ⟨rfl, rfl⟩)
  go_ret
  exact ⟨rfl, by go_grown⟩
end Go.Proofs.Ytogegnikpjcpdaa
