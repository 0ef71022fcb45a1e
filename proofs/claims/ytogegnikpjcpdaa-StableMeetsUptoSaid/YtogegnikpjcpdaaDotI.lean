/- dot.Order as slices.SortFunc asks it; the sort's contract over a row of dots that the call owns. -/
import Derived.Test.YtogegnikpjcpdaaDotH
import Derived.Test.YtogegnikpjcpdaaShelf
namespace Go.Proofs.Ytogegnikpjcpdaa
set_option linter.unusedVariables false
open Go.ChangeShapes Go.WideShapes Go.ChangeAt Go.RowKit
open Go.Shelf Go.Lib
open Go.Sort (grow SWO PermIn SortedIn alloc_eq_grow grow_grow drew_grow HoldsK)

set_option maxHeartbeats 400000 in
set_option maxRecDepth 100000 in
theorem order_grow (a0 a1 b0 b1 : Int) (w : World) :
    Calls Try.prog 66 #[.agg #[.int .i64 a0, .int .i64 a1], .agg #[.int .i64 b0, .int .i64 b1]] w fun e w' => e = .returned (.int .i64 (or2 (cmpI a0 b0) (cmpI a1 b1))) ∧ ∃ q os', w' = grow (w.drewN q) os' := by
  go_enter Try.func66, Try.ntmps66
  go_wp2
  refine region_tail 10 (by kernel_rfl) (by kernel_rfl) ?_
  simp only [List.take_succ_cons, List.take_zero, List.drop_succ_cons, List.drop_zero]
  repeat (first | still_step | still_call ((compare_any _ _ _).mono fun _ _ ⟨h1, h2⟩ => ⟨h1, h2.symm⟩))
  refine wpStill_nil ?_
  go_wp2_with (go_at_call 95; refine (or_any _ (cmpI a0 b0) (cmpI a1 b1) _ (by simp [go_sem]) (by simp [go_sem])).mono ?_; rintro e w' ⟨rfl, rfl⟩)
  go_ret
  exact ⟨rfl, 1, _, by rw [alloc_eq_grow, alloc_eq_grow, alloc_eq_grow, grow_grow, grow_grow, drew_grow]; rfl⟩

def dotCf (x y : Int × Int) : Int := or2 (cmpI x.1 y.1) (cmpI x.2 y.2)
abbrev encD (x : Int × Int) : List Value := [.int .i64 x.1, .int .i64 x.2]

theorem ltOf_dot (x y : Int × Int) : ltOf dotCf x y = before x y := by
  have := cmp_before x y
  unfold ltOf dotCf
  cases h : before x y
  · rw [h] at this; simp at this; simp; omega
  · rw [h] at this; simp at this; simp; omega

theorem swo_dot : SWO (ltOf dotCf) where
  irrefl x := by rw [ltOf_dot]; simp [before]
  trans x y z h1 h2 := by rw [ltOf_dot] at *; simp [before] at *; omega
  ntrans x y z h1 h2 := by rw [ltOf_dot] at *; simp [before] at *; omega

theorem cmpLays_dot (blk off size : Nat) (w : World) : CmpLays Try.prog 66 #[] encD 2 dotCf blk off size w :=
  fun _ _ _ _ x y => order_grow x.1 x.2 y.1 y.2 _

theorem enters_order : ∀ args w, (callFunc 66 args).run Try.prog w = .ok (.enter 66 args) w := enters_of Try.func66 (by kernel_rfl) rfl

theorem sort_raw (blk off cap : Nat) (d : Array (Int × Int)) (w : World) (hH : HoldsK encD 2 w blk off d) (hblk : blk < w.heap.size) (hsz : d.size < 4611686018427387904) :
    Calls Try.prog 71 #[.slice (some ⟨blk, off, none⟩) d.size cap, .func (.func 66) #[] #[]] w fun e w' => e = .returned (.tuple #[]) ∧ ∃ d' n os, PermIn 0 d.size d d' ∧ SortedIn (ltOf dotCf) 0 d.size d' ∧ w' = sortWorldK encD 2 w blk off n d' os :=
  AnyQ.slices_SortFunc Try.sortDot 2 Try.isAgg27 Try.sizeOf27 encD (fun _ => rfl) (fun x v hv => by simp [encD] at hv; rcases hv with rfl | rfl <;> rfl) dotCf swo_dot 66 #[] blk off cap d w enters_order (cmpLays_dot blk off d.size w) hH hblk hsz
end Go.Proofs.Ytogegnikpjcpdaa
