/- Contracts of dot.Has and viewref.Has. -/
import Derived.Test.YtogegnikpjcpdaaDotB
namespace Go.Proofs.Ytogegnikpjcpdaa
set_option linter.unusedVariables false
open Go.ChangeShapes Go.WideShapes Go.ChangeAt Go.RowKit

structure Ctx where
  c0 : Int
  c1 : Int
  c2 : Int
  c3 : Int
  cloud : List (Int × Int)

def Ctx.at_ (c : Ctx) (n : Int) : Int := if n = 0 then c.c0 else if n = 1 then c.c1 else if n = 2 then c.c2 else c.c3
def Ctx.has (c : Ctx) (d : Int × Int) : Prop := (0 ≤ d.1 ∧ d.1 < 4 ∧ 1 ≤ d.2 ∧ d.2 ≤ c.at_ d.1) ∨ d ∈ c.cloud
instance (c : Ctx) (d : Int × Int) : Decidable (c.has d) := by unfold Ctx.has; infer_instance
def hasB (c : Ctx) (d : Int × Int) : Bool := decide (c.has d)

abbrev cval (c : Ctx) (A : Option Addr) (k : Nat) : Value := .agg #[.int .i64 c.c0, .int .i64 c.c1, .int .i64 c.c2, .int .i64 c.c3, .slice A c.cloud.length k]
abbrev dval (d : Int × Int) : Value := .agg #[.int .i64 d.1, .int .i64 d.2]

theorem four (n : Int) : (n < 0 ∨ 4 ≤ n) ∨ n = 0 ∨ n = 1 ∨ n = 2 ∨ n = 3 := by omega

theorem hasB_yes {c : Ctx} {n s : Int} (h0 : 0 ≤ n) (h1 : n < 4) (h2 : 1 ≤ s) (h3 : s ≤ c.at_ n) : hasB c (n, s) = true := by simp [hasB, Ctx.has, *]
theorem hasB_no {c : Ctx} {n s : Int} (h : 0 ≤ n → n < 4 → 1 ≤ s → c.at_ n < s) : hasB c (n, s) = decide ((n, s) ∈ c.cloud) := by
  have e : ¬ (0 ≤ n ∧ n < 4 ∧ 1 ≤ s ∧ s ≤ c.at_ n) := fun ⟨a, b, d, f⟩ => by have := h a b d; omega
  simp [hasB, Ctx.has, e]

def HasC (l : List (Int × Int)) (n s : Int) (A : Option Addr) (k : Nat) (w : World) : Prop :=
  ∀ w1, Below w.heap.size w w1 → Calls Try.prog 67 #[.slice A l.length k, .agg #[.int .i64 n, .int .i64 s]] w1 fun e w' => e = .returned (.bool (decide ((n, s) ∈ l))) ∧ Below w1.heap.size w1 w'
theorem hasC (l : List (Int × Int)) (n s : Int) (A : Option Addr) (k : Nat) (w : World) (hr : Row w w.heap.size A (dcells l)) (hl : l.length ≤ 9223372036854775807) : HasC l n s A k w :=
  fun w1 hb => contains_any l n s A k w1 ((hr.below hb (Nat.le_refl _)).more hb.size) hl

set_option maxHeartbeats 400000 in
set_option maxRecDepth 100000 in
theorem has_in (c0 c1 c2 c3 : Int) (l : List (Int × Int)) (n s : Int) (A : Option Addr) (k : Nat) (w : World) (HC : HasC l n s A k w) (hn0 : 0 ≤ n) (hn4 : n < 4) :
    Calls Try.prog 25 #[.agg #[.int .i64 c0, .int .i64 c1, .int .i64 c2, .int .i64 c3, .slice A l.length k], .agg #[.int .i64 n, .int .i64 s]] w fun e w' => e = .returned (.bool (hasB ⟨c0, c1, c2, c3, l⟩ (n, s))) ∧ Below w.heap.size w w' := by
  have hcl : ((w.alloc (.cells #[.int .i64 c0, .int .i64 c1, .int .i64 c2, .int .i64 c3, .slice A l.length k] 25)).alloc (.cells #[.int .i64 n, .int .i64 s] 27)).cell? ⟨w.heap.size, n.toNat, none⟩ = some (.int .i64 (Ctx.at_ ⟨c0, c1, c2, c3, l⟩ n)) := by
    rcases (by omega : n = 0 ∨ n = 1 ∨ n = 2 ∨ n = 3) with h | h | h | h <;> subst h <;> simp [go_sem, Ctx.at_]
  go_enter Try.func25, Try.ntmps25
  go_wp2
  refine wp_region_quiet_lit (by kernel_rfl) (by kernel_rfl) ?_
  repeat (any_goals ((with_reducible refine wpQuiet_step (fun K hK => ?_)); go_simp; first | (with_reducible refine hK _ ?_; clear hK K) | ((with_reducible apply Exists.intro); (with_reducible refine ⟨fun _ => ?_, hK _ ?_⟩); (fail); clear hK K) | ((with_reducible refine (if_neg ?_).mpr (hK _ ?_)); (decide); clear hK K) | (split <;> (with_reducible refine hK _ ?_; clear hK K))))
  all_goals ((with_reducible refine wpQuiet_nil ?_); intro _ hw'; obtain ⟨nq, hw''⟩ := hw'; subst hw'')
  all_goals go_wp2_with (go_at_call 67; refine (HC _ ?_).mono ?_; rotate_left; ((repeat' (first | (with_reducible exact Below.refl _ _) | (with_reducible assumption) | (with_reducible refine below_drewN ?_ _) | (with_reducible refine Below.drew ?_) | (with_reducible refine Below.alloc ?_ ?_ _) | (with_reducible refine Below.setCell ?_ ?_ _) | (refine Below.trans ?_ (Below.mono (by assumption) ?_)) | go_size))); rintro e w' ⟨rfl, hb⟩)
  all_goals go_ret
  · exact ⟨ret_bool (hasB_yes hn0 hn4 (by assumption) (by assumption)).symm, by (repeat' (first | (with_reducible exact Below.refl _ _) | (with_reducible assumption) | (with_reducible refine below_drewN ?_ _) | (with_reducible refine Below.drew ?_) | (with_reducible refine Below.alloc ?_ ?_ _) | (with_reducible refine Below.setCell ?_ ?_ _) | (refine Below.trans ?_ (Below.mono (by assumption) ?_)) | go_size))⟩
  · exact ⟨ret_bool (hasB_no (c := ⟨c0, c1, c2, c3, l⟩) (n := n) (s := s) (fun _ _ _ => by first | assumption | omega)).symm, by (repeat' (first | (with_reducible exact Below.refl _ _) | (with_reducible assumption) | (with_reducible refine below_drewN ?_ _) | (with_reducible refine Below.drew ?_) | (with_reducible refine Below.alloc ?_ ?_ _) | (with_reducible refine Below.setCell ?_ ?_ _) | (refine Below.trans ?_ (Below.mono (by assumption) ?_)) | go_size))⟩
  · exact ⟨ret_bool (hasB_no (c := ⟨c0, c1, c2, c3, l⟩) (n := n) (s := s) (fun _ _ _ => by first | assumption | omega)).symm, by (repeat' (first | (with_reducible exact Below.refl _ _) | (with_reducible assumption) | (with_reducible refine below_drewN ?_ _) | (with_reducible refine Below.drew ?_) | (with_reducible refine Below.alloc ?_ ?_ _) | (with_reducible refine Below.setCell ?_ ?_ _) | (refine Below.trans ?_ (Below.mono (by assumption) ?_)) | go_size))⟩

set_option maxHeartbeats 400000 in
set_option maxRecDepth 100000 in
theorem has_low (c0 c1 c2 c3 : Int) (l : List (Int × Int)) (n s : Int) (A : Option Addr) (k : Nat) (w : World) (HC : HasC l n s A k w) (hn : n < 0) :
    Calls Try.prog 25 #[.agg #[.int .i64 c0, .int .i64 c1, .int .i64 c2, .int .i64 c3, .slice A l.length k], .agg #[.int .i64 n, .int .i64 s]] w fun e w' => e = .returned (.bool (hasB ⟨c0, c1, c2, c3, l⟩ (n, s))) ∧ Below w.heap.size w w' := by
  have hd : decide (0 ≤ n) = false := by simp; omega
  go_enter Try.func25, Try.ntmps25
  go_wp2
  refine wp_region_quiet_lit (by kernel_rfl) (by kernel_rfl) ?_
  repeat (any_goals ((with_reducible refine wpQuiet_step (fun K hK => ?_)); go_simp; first | (with_reducible refine hK _ ?_; clear hK K) | ((with_reducible apply Exists.intro); (with_reducible refine ⟨fun _ => ?_, hK _ ?_⟩); (fail); clear hK K) | ((with_reducible refine (if_neg ?_).mpr (hK _ ?_)); (decide); clear hK K) | (split <;> (with_reducible refine hK _ ?_; clear hK K))))
  all_goals ((with_reducible refine wpQuiet_nil ?_); intro _ hw'; obtain ⟨nq, hw''⟩ := hw'; subst hw'')
  go_wp2_with (go_at_call 67; refine (HC _ ?_).mono ?_; rotate_left; ((repeat' (first | (with_reducible exact Below.refl _ _) | (with_reducible assumption) | (with_reducible refine below_drewN ?_ _) | (with_reducible refine Below.drew ?_) | (with_reducible refine Below.alloc ?_ ?_ _) | (with_reducible refine Below.setCell ?_ ?_ _) | (refine Below.trans ?_ (Below.mono (by assumption) ?_)) | go_size))); rintro e w' ⟨rfl, hb⟩)
  go_ret
  exact ⟨ret_bool (hasB_no (c := ⟨c0, c1, c2, c3, l⟩) (n := n) (s := s) (fun _ _ _ => by omega)).symm, by (repeat' (first | (with_reducible exact Below.refl _ _) | (with_reducible assumption) | (with_reducible refine below_drewN ?_ _) | (with_reducible refine Below.drew ?_) | (with_reducible refine Below.alloc ?_ ?_ _) | (with_reducible refine Below.setCell ?_ ?_ _) | (refine Below.trans ?_ (Below.mono (by assumption) ?_)) | go_size))⟩

set_option maxHeartbeats 400000 in
set_option maxRecDepth 100000 in
theorem has_high (c0 c1 c2 c3 : Int) (l : List (Int × Int)) (n s : Int) (A : Option Addr) (k : Nat) (w : World) (HC : HasC l n s A k w) (hn0 : 0 ≤ n) (hn4 : 4 ≤ n) :
    Calls Try.prog 25 #[.agg #[.int .i64 c0, .int .i64 c1, .int .i64 c2, .int .i64 c3, .slice A l.length k], .agg #[.int .i64 n, .int .i64 s]] w fun e w' => e = .returned (.bool (hasB ⟨c0, c1, c2, c3, l⟩ (n, s))) ∧ Below w.heap.size w w' := by
  have hd : decide (n < 4) = false := by simp; omega
  go_enter Try.func25, Try.ntmps25
  go_wp2
  refine wp_region_quiet_lit (by kernel_rfl) (by kernel_rfl) ?_
  repeat (any_goals ((with_reducible refine wpQuiet_step (fun K hK => ?_)); go_simp; first | (with_reducible refine hK _ ?_; clear hK K) | ((with_reducible apply Exists.intro); (with_reducible refine ⟨fun _ => ?_, hK _ ?_⟩); (fail); clear hK K) | ((with_reducible refine (if_neg ?_).mpr (hK _ ?_)); (decide); clear hK K) | (split <;> (with_reducible refine hK _ ?_; clear hK K))))
  all_goals ((with_reducible refine wpQuiet_nil ?_); intro _ hw'; obtain ⟨nq, hw''⟩ := hw'; subst hw'')
  go_wp2_with (go_at_call 67; refine (HC _ ?_).mono ?_; rotate_left; ((repeat' (first | (with_reducible exact Below.refl _ _) | (with_reducible assumption) | (with_reducible refine below_drewN ?_ _) | (with_reducible refine Below.drew ?_) | (with_reducible refine Below.alloc ?_ ?_ _) | (with_reducible refine Below.setCell ?_ ?_ _) | (refine Below.trans ?_ (Below.mono (by assumption) ?_)) | go_size))); rintro e w' ⟨rfl, hb⟩)
  go_ret
  exact ⟨ret_bool (hasB_no (c := ⟨c0, c1, c2, c3, l⟩) (n := n) (s := s) (fun _ _ _ => by omega)).symm, by (repeat' (first | (with_reducible exact Below.refl _ _) | (with_reducible assumption) | (with_reducible refine below_drewN ?_ _) | (with_reducible refine Below.drew ?_) | (with_reducible refine Below.alloc ?_ ?_ _) | (with_reducible refine Below.setCell ?_ ?_ _) | (refine Below.trans ?_ (Below.mono (by assumption) ?_)) | go_size))⟩

theorem has_any (c : Ctx) (d : Int × Int) (A : Option Addr) (k : Nat) (w : World) (hr : Row w w.heap.size A (dcells c.cloud)) (hl : c.cloud.length ≤ 9223372036854775807) :
    Calls Try.prog 25 #[cval c A k, dval d] w fun e w' => e = .returned (.bool (hasB c d)) ∧ Below w.heap.size w w' := by
  have HC := hasC c.cloud d.1 d.2 A k w hr hl
  by_cases h0 : 0 ≤ d.1
  · by_cases h4 : d.1 < 4
    · exact has_in c.c0 c.c1 c.c2 c.c3 c.cloud d.1 d.2 A k w HC h0 h4
    · exact has_high c.c0 c.c1 c.c2 c.c3 c.cloud d.1 d.2 A k w HC h0 (by omega)
  · exact has_low c.c0 c.c1 c.c2 c.c3 c.cloud d.1 d.2 A k w HC (by omega)
end Go.Proofs.Ytogegnikpjcpdaa
