/- dot.Less and its predicate. -/
import Derived.Test.YtogegnikpjcpdaaTwo
import Derived.Test.YtogegnikpjcpdaaCtx
namespace Go.Proofs.Ytogegnikpjcpdaa
set_option linter.unusedVariables false
open Go.ChangeShapes Go.WideShapes Go.ChangeAt Go.RowKit

abbrev cbox (c : Ctx) (A : Option Addr) (k : Nat) : Array Value := #[.int .i64 c.c0, .int .i64 c.c1, .int .i64 c.c2, .int .i64 c.c3, .slice A c.cloud.length k]

theorem lessF_any (b : Ctx) (B : Option Addr) (m X : Nat) (d : Int × Int) (w : World) (hX : Blk w X (cbox b B m) 25) (rb : Row w w.heap.size B (dcells b.cloud)) (lb : b.cloud.length ≤ 9223372036854775807) :
    Calls Try.prog 70 #[dval d, .pointer (some ⟨X, 0, none⟩)] w fun e w' => e = .returned (.bool (!hasB b d)) ∧ Below w.heap.size w w' := by
  have HH := hid (fun w1 (hb : Below w.heap.size w w1) => has_any b d B m w1 (rb.step hb) lb)
  have hlt := hX.lt
  obtain ⟨c1, f1⟩ := hX.cells
  clear hX rb f1
  obtain ⟨d0, d1⟩ := d
  obtain ⟨b0, b1, b2, b3, bl⟩ := b
  simp only [cval, dval, cbox] at *
  generalize hasB ⟨b0, b1, b2, b3, bl⟩ (d0, d1) = I at *
  go_enter Try.func70, Try.ntmps70
  go_wp2_with fail
  refine (HH.out _ (by (repeat' (first | (with_reducible exact Below.refl _ _) | (with_reducible assumption) | (with_reducible refine below_drewN ?_ _) | (with_reducible refine Below.drew ?_) | (with_reducible refine Below.alloc ?_ ?_ _) | (with_reducible refine Below.setCell ?_ ?_ _) | (refine Below.trans ?_ (Below.mono (by assumption) ?_)) | go_size)))).mono ?_
  rintro e w1 ⟨rfl, hb1⟩
  go_wp2
  go_ret
  exact ⟨rfl, (by refine Below.step' ?_ hb1; (repeat' (first | (with_reducible exact Below.refl _ _) | (with_reducible assumption) | (with_reducible refine below_drewN ?_ _) | (with_reducible refine Below.drew ?_) | (with_reducible refine Below.alloc ?_ ?_ _) | (with_reducible refine Below.setCell ?_ ?_ _) | (refine Below.trans ?_ (Below.mono (by assumption) ?_)) | go_size)))⟩

theorem enters_lessF : ∀ args w, (callFunc 70 args).run Try.prog w = .ok (.enter 70 args) w := enters_of Try.func70 (by kernel_rfl) rfl

def lessX (a b : Ctx) : Bool := if twoI a b ≠ 0 then false else lessB a b

theorem not_any (l : List (Int × Int)) (f : Int × Int → Bool) : (!l.any (fun d => !f d)) = l.all f := by
  induction l with
  | nil => rfl
  | cons x l ih => simp only [List.any_cons, List.all_cons, ← ih]; cases f x <;> simp

theorem lessB_no {a b : Ctx} (h : b.c0 < a.c0 ∨ b.c1 < a.c1 ∨ b.c2 < a.c2 ∨ b.c3 < a.c3) : lessB a b = false := by
  unfold lessB
  rw [Bool.eq_false_iff]
  intro h2
  simp only [Bool.and_eq_true, decide_eq_true_eq] at h2
  omega
theorem lessB_yes {a b : Ctx} (h0 : a.c0 ≤ b.c0) (h1 : a.c1 ≤ b.c1) (h2 : a.c2 ≤ b.c2) (h3 : a.c3 ≤ b.c3) : lessB a b = a.cloud.all (fun d => hasB b d) := by
  unfold lessB
  simp [h0, h1, h2, h3]
theorem ret_bi {a b : Bool} {x : Int} (h : a = b) : Ending.returned (.tuple #[.bool a, .int .i64 x]) = .returned (.tuple #[.bool b, .int .i64 x]) := by rw [h]

set_option maxHeartbeats 1000000 in
set_option maxRecDepth 100000 in
theorem less_any (a b : Ctx) (A B : Option Addr) (k m : Nat) (w : World) (ra : Row w w.heap.size A (dcells a.cloud)) (la : a.cloud.length ≤ 9223372036854775807)
    (rb : Row w w.heap.size B (dcells b.cloud)) (lb : b.cloud.length ≤ 9223372036854775807) :
    Calls Try.prog 32 #[cval a A k, cval b B m] w fun e w' => e = .returned (.tuple #[.bool (lessX a b), .int .i64 (twoI a b)]) ∧ Below w.heap.size w w' := by
  have HBO := hid (fun w1 (hb : Below w.heap.size w w1) => both_any a b A B k m w1 (ra.step hb) la (rb.step hb) lb)
  have HCF := hid (fun w1 X (hb : Below w.heap.size w w1) (hX : Blk w1 X (cbox b B m) 25) => containsFunc_any 70 #[.pointer (some ⟨X, 0, none⟩)] (fun d => !hasB b d) a.cloud A k w1 (ra.step hb) la enters_lessF
    (fun w2 hb2 d _ => lessF_any b B m X d w2 (hX.step hb2) ((rb.step hb).step hb2) lb))
  by_cases q : twoI a b = 0
  rotate_left
  · have hX : lessX a b = false := by unfold lessX; rw [if_pos q]
    rw [hX]
    have q2 : (twoI a b == 0) = false := by simpa using q
    generalize twoI a b = I at *
    clear hX
    obtain ⟨a0, a1, a2, a3, al⟩ := a
    obtain ⟨b0, b1, b2, b3, bl⟩ := b
    simp only [cval] at *
    clear ra rb HCF
    go_enter Try.func32, Try.ntmps32
    go_wp2_with fail
    refine (HBO.out _ (by (repeat' (first | (with_reducible exact Below.refl _ _) | (with_reducible assumption) | (with_reducible refine below_drewN ?_ _) | (with_reducible refine Below.drew ?_) | (with_reducible refine Below.alloc ?_ ?_ _) | (with_reducible refine Below.setCell ?_ ?_ _) | (refine Below.trans ?_ (Below.mono (by assumption) ?_)) | go_size)))).mono ?_
    rintro e w1 ⟨rfl, hb1⟩
    go_wp2
    go_ret2
    exact ⟨rfl, (by refine Below.step' ?_ hb1; (repeat' (first | (with_reducible exact Below.refl _ _) | (with_reducible assumption) | (with_reducible refine below_drewN ?_ _) | (with_reducible refine Below.drew ?_) | (with_reducible refine Below.alloc ?_ ?_ _) | (with_reducible refine Below.setCell ?_ ?_ _) | (refine Below.trans ?_ (Below.mono (by assumption) ?_)) | go_size)))⟩
  · have hX : lessX a b = lessB a b := by unfold lessX; rw [if_neg (by simp [q])]
    rw [hX]
    rw [q] at HBO ⊢
    obtain ⟨L, hL⟩ : ∃ L, L = lessB a b := ⟨_, rfl⟩
    rw [← hL]
    have HL := hid hL
    clear hL
    clear hX q ra rb
    obtain ⟨a0, a1, a2, a3, al⟩ := a
    obtain ⟨b0, b1, b2, b3, bl⟩ := b
    simp only [cval, cbox] at *
    have i0 := clk0 a0 a1 a2 a3
    have i1 := clk1 a0 a1 a2 a3
    have i2 := clk2 a0 a1 a2 a3
    have i3 := clk3 a0 a1 a2 a3
    go_enter Try.func32, Try.ntmps32
    go_wp2_with fail
    refine (HBO.out _ (by (repeat' (first | (with_reducible exact Below.refl _ _) | (with_reducible assumption) | (with_reducible refine below_drewN ?_ _) | (with_reducible refine Below.drew ?_) | (with_reducible refine Below.alloc ?_ ?_ _) | (with_reducible refine Below.setCell ?_ ?_ _) | (refine Below.trans ?_ (Below.mono (by assumption) ?_)) | go_size)))).mono ?_
    rintro e w1 ⟨rfl, hb1⟩
    have hB1 : Below w.heap.size w w1 := (by refine Below.step' ?_ hb1; (repeat' (first | (with_reducible exact Below.refl _ _) | (with_reducible assumption) | (with_reducible refine below_drewN ?_ _) | (with_reducible refine Below.drew ?_) | (with_reducible refine Below.alloc ?_ ?_ _) | (with_reducible refine Below.setCell ?_ ?_ _) | (refine Below.trans ?_ (Below.mono (by assumption) ?_)) | go_size)))
    have hX1 : Blk w1 (w.heap.size + 1) #[.int .i64 b0, .int .i64 b1, .int .i64 b2, .int .i64 b3, .slice B bl.length m] 25 := Blk.thru (by exact Blk.new' (w.alloc _) _ _ (by simp)) hb1 (by simp)
    have c1 := (anchor hb1).1
    simp only [World.size_alloc] at c1
    have HB1 := hid hB1
    have HX1 := hid hX1
    clear hb1 hB1 hX1
    go_wp2
    refine wp_loop_rounds 5 ?_
    repeat any_goals (rw [rounds_succ]; go_wp2_with fail)
    all_goals first
      | (go_ret2; refine ⟨ret_bi (HL.out.trans (lessB_no (by simp only; omega))).symm, HB1.out⟩)
      | skip
    refine (HCF.out _ _ HB1.out HX1.out).mono ?_
    rintro e w2 ⟨rfl, hb2⟩
    go_wp2
    go_ret2
    exact ⟨ret_bi ((not_any _ _).trans (HL.out.trans (lessB_yes (by simp only; omega) (by simp only; omega) (by simp only; omega) (by simp only; omega))).symm), Below.step' HB1.out hb2⟩
end Go.Proofs.Ytogegnikpjcpdaa
