/- dot.both, viewref.Two. -/
import Derived.Test.YtogegnikpjcpdaaDotH
import Derived.Test.YtogegnikpjcpdaaMem
namespace Go.Proofs.Ytogegnikpjcpdaa
set_option linter.unusedVariables false
open Go.ChangeShapes Go.WideShapes Go.ChangeAt Go.RowKit

def twoI (a b : Ctx) : Int := if checkI a ≠ 0 then checkI a else checkI b

set_option maxRecDepth 100000 in
theorem both_any (a b : Ctx) (A B : Option Addr) (k m : Nat) (w : World) (ra : Row w w.heap.size A (dcells a.cloud)) (la : a.cloud.length ≤ 9223372036854775807)
    (rb : Row w w.heap.size B (dcells b.cloud)) (lb : b.cloud.length ≤ 9223372036854775807) :
    Calls Try.prog 68 #[cval a A k, cval b B m] w fun e w' => e = .returned (.int .i64 (twoI a b)) ∧ Below w.heap.size w w' := by
  have HA := hid (fun w1 (hb : Below w.heap.size w w1) => check_any a A k w1 (ra.step hb) la)
  have HB := hid (fun w1 (hb : Below w.heap.size w w1) => check_any b B m w1 (rb.step hb) lb)
  have HI := hid (show twoI a b = if checkI a ≠ 0 then checkI a else checkI b from rfl)
  generalize twoI a b = I at *
  clear ra rb la lb
  obtain ⟨a0, a1, a2, a3, al⟩ := a
  obtain ⟨b0, b1, b2, b3, bl⟩ := b
  simp only [cval] at *
  by_cases q : checkI ⟨a0, a1, a2, a3, al⟩ = 0
  · have hI : I = checkI ⟨b0, b1, b2, b3, bl⟩ := by rw [HI.out, if_neg (by simp [q])]
    rw [q] at HA
    have HE := hid hI
    clear hI q HI
    go_enter Try.func68, Try.ntmps68
    go_wp2_with fail
    refine (HA.out _ (by (repeat' (first | (with_reducible exact Below.refl _ _) | (with_reducible assumption) | (with_reducible refine below_drewN ?_ _) | (with_reducible refine Below.drew ?_) | (with_reducible refine Below.alloc ?_ ?_ _) | (with_reducible refine Below.setCell ?_ ?_ _) | (refine Below.trans ?_ (Below.mono (by assumption) ?_)) | go_size)))).mono ?_
    rintro e w1 ⟨rfl, hb1⟩
    have c1 := (anchor hb1).1
    simp only [World.size_alloc] at c1
    go_wp2_with fail
    refine (HB.out _ ?_).mono ?_
    · exact (by refine Below.step' ?_ hb1; (repeat' (first | (with_reducible exact Below.refl _ _) | (with_reducible assumption) | (with_reducible refine below_drewN ?_ _) | (with_reducible refine Below.drew ?_) | (with_reducible refine Below.alloc ?_ ?_ _) | (with_reducible refine Below.setCell ?_ ?_ _) | (refine Below.trans ?_ (Below.mono (by assumption) ?_)) | go_size)))
    rintro e w2 ⟨rfl, hb2⟩
    go_wp2
    go_ret
    exact ⟨ret_int HE.out.symm, Below.step' ((by refine Below.step' ?_ hb1; (repeat' (first | (with_reducible exact Below.refl _ _) | (with_reducible assumption) | (with_reducible refine below_drewN ?_ _) | (with_reducible refine Below.drew ?_) | (with_reducible refine Below.alloc ?_ ?_ _) | (with_reducible refine Below.setCell ?_ ?_ _) | (refine Below.trans ?_ (Below.mono (by assumption) ?_)) | go_size))) : Below w.heap.size w w1) hb2⟩
  · have hI : I = checkI ⟨a0, a1, a2, a3, al⟩ := by rw [HI.out, if_pos q]
    have q2 : (checkI ⟨a0, a1, a2, a3, al⟩ == 0) = false := by simpa using q
    have HE := hid hI
    clear hI HI
    generalize checkI ⟨a0, a1, a2, a3, al⟩ = I1 at *
    go_enter Try.func68, Try.ntmps68
    go_wp2_with fail
    refine (HA.out _ (by (repeat' (first | (with_reducible exact Below.refl _ _) | (with_reducible assumption) | (with_reducible refine below_drewN ?_ _) | (with_reducible refine Below.drew ?_) | (with_reducible refine Below.alloc ?_ ?_ _) | (with_reducible refine Below.setCell ?_ ?_ _) | (refine Below.trans ?_ (Below.mono (by assumption) ?_)) | go_size)))).mono ?_
    rintro e w1 ⟨rfl, hb1⟩
    go_wp2
    go_ret
    exact ⟨ret_int HE.out.symm, (by refine Below.step' ?_ hb1; (repeat' (first | (with_reducible exact Below.refl _ _) | (with_reducible assumption) | (with_reducible refine below_drewN ?_ _) | (with_reducible refine Below.drew ?_) | (with_reducible refine Below.alloc ?_ ?_ _) | (with_reducible refine Below.setCell ?_ ?_ _) | (refine Below.trans ?_ (Below.mono (by assumption) ?_)) | go_size)))⟩

set_option maxRecDepth 100000 in
theorem two_any (a b : Ctx) (A B : Option Addr) (k m : Nat) (w : World) (ra : Row w w.heap.size A (dcells a.cloud)) (la : a.cloud.length ≤ 9223372036854775807)
    (rb : Row w w.heap.size B (dcells b.cloud)) (lb : b.cloud.length ≤ 9223372036854775807) :
    Calls Try.prog 28 #[cval a A k, cval b B m] w fun e w' => e = .returned (.int .i64 (twoI a b)) ∧ Below w.heap.size w w' := by
  have HA := hid (fun w1 (hb : Below w.heap.size w w1) => context_any a A k w1 (ra.step hb) la)
  have HB := hid (fun w1 (hb : Below w.heap.size w w1) => context_any b B m w1 (rb.step hb) lb)
  have HI := hid (show twoI a b = if checkI a ≠ 0 then checkI a else checkI b from rfl)
  generalize twoI a b = I at *
  clear ra rb la lb
  obtain ⟨a0, a1, a2, a3, al⟩ := a
  obtain ⟨b0, b1, b2, b3, bl⟩ := b
  simp only [cval] at *
  by_cases q : checkI ⟨a0, a1, a2, a3, al⟩ = 0
  · have hI : I = checkI ⟨b0, b1, b2, b3, bl⟩ := by rw [HI.out, if_neg (by simp [q])]
    rw [q] at HA
    have HE := hid hI
    clear hI q HI
    go_enter Try.func28, Try.ntmps28
    go_wp2_with fail
    refine (HA.out _ (by (repeat' (first | (with_reducible exact Below.refl _ _) | (with_reducible assumption) | (with_reducible refine below_drewN ?_ _) | (with_reducible refine Below.drew ?_) | (with_reducible refine Below.alloc ?_ ?_ _) | (with_reducible refine Below.setCell ?_ ?_ _) | (refine Below.trans ?_ (Below.mono (by assumption) ?_)) | go_size)))).mono ?_
    rintro e w1 ⟨rfl, hb1⟩
    have c1 := (anchor hb1).1
    simp only [World.size_alloc] at c1
    go_wp2_with fail
    refine (HB.out _ ?_).mono ?_
    · exact (by refine Below.step' ?_ hb1; (repeat' (first | (with_reducible exact Below.refl _ _) | (with_reducible assumption) | (with_reducible refine below_drewN ?_ _) | (with_reducible refine Below.drew ?_) | (with_reducible refine Below.alloc ?_ ?_ _) | (with_reducible refine Below.setCell ?_ ?_ _) | (refine Below.trans ?_ (Below.mono (by assumption) ?_)) | go_size)))
    rintro e w2 ⟨rfl, hb2⟩
    go_wp2
    go_ret
    exact ⟨ret_int HE.out.symm, Below.step' ((by refine Below.step' ?_ hb1; (repeat' (first | (with_reducible exact Below.refl _ _) | (with_reducible assumption) | (with_reducible refine below_drewN ?_ _) | (with_reducible refine Below.drew ?_) | (with_reducible refine Below.alloc ?_ ?_ _) | (with_reducible refine Below.setCell ?_ ?_ _) | (refine Below.trans ?_ (Below.mono (by assumption) ?_)) | go_size))) : Below w.heap.size w w1) hb2⟩
  · have hI : I = checkI ⟨a0, a1, a2, a3, al⟩ := by rw [HI.out, if_pos q]
    have q2 : (checkI ⟨a0, a1, a2, a3, al⟩ == 0) = false := by simpa using q
    have HE := hid hI
    clear hI HI
    generalize checkI ⟨a0, a1, a2, a3, al⟩ = I1 at *
    go_enter Try.func28, Try.ntmps28
    go_wp2_with fail
    refine (HA.out _ (by (repeat' (first | (with_reducible exact Below.refl _ _) | (with_reducible assumption) | (with_reducible refine below_drewN ?_ _) | (with_reducible refine Below.drew ?_) | (with_reducible refine Below.alloc ?_ ?_ _) | (with_reducible refine Below.setCell ?_ ?_ _) | (refine Below.trans ?_ (Below.mono (by assumption) ?_)) | go_size)))).mono ?_
    rintro e w1 ⟨rfl, hb1⟩
    go_wp2
    go_ret
    exact ⟨ret_int HE.out.symm, (by refine Below.step' ?_ hb1; (repeat' (first | (with_reducible exact Below.refl _ _) | (with_reducible assumption) | (with_reducible refine below_drewN ?_ _) | (with_reducible refine Below.drew ?_) | (with_reducible refine Below.alloc ?_ ?_ _) | (with_reducible refine Below.setCell ?_ ?_ _) | (refine Below.trans ?_ (Below.mono (by assumption) ?_)) | go_size)))⟩
end Go.Proofs.Ytogegnikpjcpdaa
