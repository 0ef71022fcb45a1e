/- dot.Make. -/
import Derived.Test.YtogegnikpjcpdaaDotR
namespace Go.Proofs.Ytogegnikpjcpdaa
set_option linter.unusedVariables false
open Go.ChangeShapes Go.WideShapes Go.ChangeAt Go.RowKit

/-- A context and an error. -/
def CtxErr (c : Ctx) (x : Int) (w : World) (e : Ending) (w' : World) : Prop :=
  ∃ A k, e = .returned (.tuple #[cval c A k, .int .i64 x]) ∧ Row w' w'.heap.size A (dcells c.cloud) ∧ Below w.heap.size w w' ∧ NewAt w.heap.size A

def makeC (l : List (Int × Int)) : Ctx := if 400 < l.length then ⟨0, 0, 0, 0, []⟩ else if l.any (fun d => !rightB d.1 d.2) = true then ⟨0, 0, 0, 0, []⟩ else packL 0 0 0 0 l
def makeE (l : List (Int × Int)) : Int := if 400 < l.length then 2 else if l.any (fun d => !rightB d.1 d.2) = true then 5 else 0

set_option maxHeartbeats 1000000 in
set_option maxRecDepth 100000 in
theorem make_any (l : List (Int × Int)) (A : Option Addr) (k : Nat) (w : World) (hr : Row w w.heap.size A (dcells l)) (hl : l.length ≤ 9223372036854775807) :
    Calls Try.prog 16 #[.slice A l.length k] w (CtxErr (makeC l) (makeE l) w) := by
  have HR := hid hr
  clear hr
  by_cases h4 : 400 < l.length
  · have hc : makeC l = ⟨0, 0, 0, 0, []⟩ := by simp [makeC, h4]
    have he : makeE l = 2 := by simp [makeE, h4]
    rw [hc, he]
    have hd : decide ((400 : Int) < (l.length : Int)) = true := by simp; omega
    clear hc he
    go_enter Try.func16, Try.ntmps16
    go_wp2
    exact bodyPost_ret (v := .tuple #[cval ⟨0, 0, 0, 0, []⟩ none 0, .int .i64 2]) (by simp [results, Try.results16, go_sem]) rfl ⟨none, 0, rfl, Row.nil, by (repeat' (first | (with_reducible exact Below.refl _ _) | (with_reducible assumption) | (with_reducible refine below_drewN ?_ _) | (with_reducible refine Below.drew ?_) | (with_reducible refine Below.alloc ?_ ?_ _) | (with_reducible refine Below.setCell ?_ ?_ _) | (refine Below.trans ?_ (Below.mono (by assumption) ?_)) | go_size)), fun _ _ _ h => by cases h⟩
  · have hd : decide ((400 : Int) < (l.length : Int)) = false := by simp; omega
    have HCF := hid (fun w1 (hb : Below w.heap.size w w1) => containsFunc_any 62 #[] (fun d => !rightB d.1 d.2) l A k w1 ((HR.out.below hb (Nat.le_refl _)).more hb.size) hl enters_makeF (predMake l w1))
    cases hany : l.any (fun d => !rightB d.1 d.2)
    · have hc : makeC l = packL 0 0 0 0 l := by rw [makeC, if_neg h4, if_neg (by simp [hany])]
      have he : makeE l = 0 := by rw [makeE, if_neg h4, if_neg (by simp [hany])]
      rw [hc, he]
      have hrt : ∀ d ∈ l, rightB d.1 d.2 = true := fun d hd => by
        rw [List.any_eq_false] at hany
        have := hany d hd
        simpa using this
      have HP := hid (fun w1 (hb : Below w.heap.size w w1) => packed_any 0 0 0 0 l A k w1 ((HR.out.below hb (Nat.le_refl _)).more hb.size) (by omega) (by simp [clkIn]) hrt)
      rw [hany] at HCF
      have HANY := hid hany
      clear hc he hrt hany
      go_enter Try.func16, Try.ntmps16
      go_wp2_with fail
      refine (HCF.out _ (by (repeat' (first | (with_reducible exact Below.refl _ _) | (with_reducible assumption) | (with_reducible refine below_drewN ?_ _) | (with_reducible refine Below.drew ?_) | (with_reducible refine Below.alloc ?_ ?_ _) | (with_reducible refine Below.setCell ?_ ?_ _) | (refine Below.trans ?_ (Below.mono (by assumption) ?_)) | go_size)))).mono ?_
      rintro e w1 ⟨rfl, hb1⟩
      go_wp2_with fail
      refine (HP.out _ (by (repeat' (first | (with_reducible exact Below.refl _ _) | (with_reducible assumption) | (with_reducible refine below_drewN ?_ _) | (with_reducible refine Below.drew ?_) | (with_reducible refine Below.alloc ?_ ?_ _) | (with_reducible refine Below.setCell ?_ ?_ _) | (refine Below.trans ?_ (Below.mono (by assumption) ?_)) | go_size)))).mono ?_
      rintro e w2 ⟨A', kk, rfl, hrow, hb2, hnew⟩
      simp at hb1 hb2
      have hB2 := hb1.trans (hb2.mono (by have := hb1.size; simp at this; omega))
      have hBB : Below w.heap.size w w2 := ((Below.refl w.heap.size w).alloc (Nat.le_refl _) _).trans (hB2.mono (by omega))
      have hR : w2.heap[w.heap.size]? = some (.cells #[.int .i64 0, .int .i64 0, .int .i64 0, .int .i64 0, .slice none 0 0] 25 (0, 0)) := (hB2.block w.heap.size (by omega)).trans (heap_alloc_new w _)
      generalize packL 0 0 0 0 l = c at *
      have r0 : w2.cell? ⟨w.heap.size, 0, none⟩ = some (.int .i64 0) := (cell_of_row w2 _ 0 _ _ _ hR).trans rfl
      have r1 : w2.cell? ⟨w.heap.size, 1, none⟩ = some (.int .i64 0) := (cell_of_row w2 _ 1 _ _ _ hR).trans rfl
      have r2 : w2.cell? ⟨w.heap.size, 2, none⟩ = some (.int .i64 0) := (cell_of_row w2 _ 2 _ _ _ hR).trans rfl
      have r3 : w2.cell? ⟨w.heap.size, 3, none⟩ = some (.int .i64 0) := (cell_of_row w2 _ 3 _ _ _ hR).trans rfl
      have r4 : w2.cell? ⟨w.heap.size, 4, none⟩ = some (.slice none 0 0) := (cell_of_row w2 _ 4 _ _ _ hR).trans rfl
      have f0 := fun j => frozen_of_row w2 w.heap.size j _ _ hR
      have HRR := hid hR
      clear hR
      go_wp2
      have hnew' : NewAt (w.heap.size + 1) A' := fun b off q e => by have := hnew b off q e; have := hb1.size; simp at this; omega
      have hW := heap_setCell_same _ w.heap.size 4 _ _ (.slice A' c.cloud.length kk) (heap_setCell_same _ w.heap.size 3 _ _ (.int .i64 c.c3) (heap_setCell_same _ w.heap.size 2 _ _ (.int .i64 c.c2) (heap_setCell_same _ w.heap.size 1 _ _ (.int .i64 c.c1) (heap_setCell_same w2 w.heap.size 0 _ _ (.int .i64 c.c0) HRR.out))))
      have hB := (((((hBB).setCell (p := ⟨w.heap.size, 0, none⟩) (Nat.le_refl _) (.int .i64 c.c0)).setCell (p := ⟨w.heap.size, 1, none⟩) (Nat.le_refl _) (.int .i64 c.c1)).setCell (p := ⟨w.heap.size, 2, none⟩) (Nat.le_refl _) (.int .i64 c.c2)).setCell (p := ⟨w.heap.size, 3, none⟩) (Nat.le_refl _) (.int .i64 c.c3)).setCell (p := ⟨w.heap.size, 4, none⟩) (Nat.le_refl _) (.slice A' c.cloud.length kk)
      have hO := (((((hrow).setCell_new hnew' (a := ⟨w.heap.size, 0, none⟩) (Nat.lt_succ_self _) (.int .i64 c.c0)).setCell_new hnew' (a := ⟨w.heap.size, 1, none⟩) (Nat.lt_succ_self _) (.int .i64 c.c1)).setCell_new hnew' (a := ⟨w.heap.size, 2, none⟩) (Nat.lt_succ_self _) (.int .i64 c.c2)).setCell_new hnew' (a := ⟨w.heap.size, 3, none⟩) (Nat.lt_succ_self _) (.int .i64 c.c3)).setCell_new hnew' (a := ⟨w.heap.size, 4, none⟩) (Nat.lt_succ_self _) (.slice A' c.cloud.length kk)
      have hsz : (((((w2.setCell ⟨w.heap.size, 0, none⟩ (.int .i64 c.c0)).setCell ⟨w.heap.size, 1, none⟩ (.int .i64 c.c1)).setCell ⟨w.heap.size, 2, none⟩ (.int .i64 c.c2)).setCell ⟨w.heap.size, 3, none⟩ (.int .i64 c.c3)).setCell ⟨w.heap.size, 4, none⟩ (.slice A' c.cloud.length kk)).heap.size = w2.heap.size := by simp
      rw [← hsz] at hO
      generalize (((((w2.setCell ⟨w.heap.size, 0, none⟩ (.int .i64 c.c0)).setCell ⟨w.heap.size, 1, none⟩ (.int .i64 c.c1)).setCell ⟨w.heap.size, 2, none⟩ (.int .i64 c.c2)).setCell ⟨w.heap.size, 3, none⟩ (.int .i64 c.c3)).setCell ⟨w.heap.size, 4, none⟩ (.slice A' c.cloud.length kk)) = W5 at *
      have q0 : W5.cell? ⟨w.heap.size, 0, none⟩ = some (.int .i64 c.c0) := (cell_of_row W5 _ 0 _ _ _ hW).trans rfl
      have q1 : W5.cell? ⟨w.heap.size, 1, none⟩ = some (.int .i64 c.c1) := (cell_of_row W5 _ 1 _ _ _ hW).trans rfl
      have q2 : W5.cell? ⟨w.heap.size, 2, none⟩ = some (.int .i64 c.c2) := (cell_of_row W5 _ 2 _ _ _ hW).trans rfl
      have q3 : W5.cell? ⟨w.heap.size, 3, none⟩ = some (.int .i64 c.c3) := (cell_of_row W5 _ 3 _ _ _ hW).trans rfl
      have q4 : W5.cell? ⟨w.heap.size, 4, none⟩ = some (.slice A' c.cloud.length kk) := (cell_of_row W5 _ 4 _ _ _ hW).trans rfl
      exact bodyPost_ret (v := .tuple #[cval c A' kk, .int .i64 0]) (by simp [results, Try.results16, go_sem, q0, q1, q2, q3, q4]) rfl ⟨A', kk, rfl, hO, hB, fun b off q e => by have := hnew' b off q e; omega⟩
    · have hc : makeC l = ⟨0, 0, 0, 0, []⟩ := by rw [makeC, if_neg h4, if_pos hany]
      have he : makeE l = 5 := by rw [makeE, if_neg h4, if_pos hany]
      rw [hc, he]
      rw [hany] at HCF
      have HANY := hid hany
      clear hc he hany
      go_enter Try.func16, Try.ntmps16
      go_wp2_with fail
      refine (HCF.out _ (by (repeat' (first | (with_reducible exact Below.refl _ _) | (with_reducible assumption) | (with_reducible refine below_drewN ?_ _) | (with_reducible refine Below.drew ?_) | (with_reducible refine Below.alloc ?_ ?_ _) | (with_reducible refine Below.setCell ?_ ?_ _) | (refine Below.trans ?_ (Below.mono (by assumption) ?_)) | go_size)))).mono ?_
      rintro e w1 ⟨rfl, hb1⟩
      simp at hb1
      have hBB : Below w.heap.size w w1 := ((Below.refl w.heap.size w).alloc (Nat.le_refl _) _).trans (hb1.mono (by omega))
      have hR : w1.heap[w.heap.size]? = some (.cells #[.int .i64 0, .int .i64 0, .int .i64 0, .int .i64 0, .slice none 0 0] 25 (0, 0)) := (hb1.block w.heap.size (by omega)).trans (heap_alloc_new w _)
      have r0 : w1.cell? ⟨w.heap.size, 0, none⟩ = some (.int .i64 0) := (cell_of_row w1 _ 0 _ _ _ hR).trans rfl
      have r1 : w1.cell? ⟨w.heap.size, 1, none⟩ = some (.int .i64 0) := (cell_of_row w1 _ 1 _ _ _ hR).trans rfl
      have r2 : w1.cell? ⟨w.heap.size, 2, none⟩ = some (.int .i64 0) := (cell_of_row w1 _ 2 _ _ _ hR).trans rfl
      have r3 : w1.cell? ⟨w.heap.size, 3, none⟩ = some (.int .i64 0) := (cell_of_row w1 _ 3 _ _ _ hR).trans rfl
      have r4 : w1.cell? ⟨w.heap.size, 4, none⟩ = some (.slice none 0 0) := (cell_of_row w1 _ 4 _ _ _ hR).trans rfl
      have f0 := fun j => frozen_of_row w1 w.heap.size j _ _ hR
      have HRR := hid hR
      clear hR
      go_wp2
      have hW := heap_setCell_same _ w.heap.size 4 _ _ (.slice none 0 0) (heap_setCell_same _ w.heap.size 3 _ _ (.int .i64 0) (heap_setCell_same _ w.heap.size 2 _ _ (.int .i64 0) (heap_setCell_same _ w.heap.size 1 _ _ (.int .i64 0) (heap_setCell_same w1 w.heap.size 0 _ _ (.int .i64 0) HRR.out))))
      have hB := (((((hBB).setCell (p := ⟨w.heap.size, 0, none⟩) (Nat.le_refl _) (.int .i64 0)).setCell (p := ⟨w.heap.size, 1, none⟩) (Nat.le_refl _) (.int .i64 0)).setCell (p := ⟨w.heap.size, 2, none⟩) (Nat.le_refl _) (.int .i64 0)).setCell (p := ⟨w.heap.size, 3, none⟩) (Nat.le_refl _) (.int .i64 0)).setCell (p := ⟨w.heap.size, 4, none⟩) (Nat.le_refl _) (.slice none 0 0)
      generalize (((((w1.setCell ⟨w.heap.size, 0, none⟩ (.int .i64 0)).setCell ⟨w.heap.size, 1, none⟩ (.int .i64 0)).setCell ⟨w.heap.size, 2, none⟩ (.int .i64 0)).setCell ⟨w.heap.size, 3, none⟩ (.int .i64 0)).setCell ⟨w.heap.size, 4, none⟩ (.slice none 0 0)) = W5 at *
      have q0 : W5.cell? ⟨w.heap.size, 0, none⟩ = some (.int .i64 0) := (cell_of_row W5 _ 0 _ _ _ hW).trans rfl
      have q1 : W5.cell? ⟨w.heap.size, 1, none⟩ = some (.int .i64 0) := (cell_of_row W5 _ 1 _ _ _ hW).trans rfl
      have q2 : W5.cell? ⟨w.heap.size, 2, none⟩ = some (.int .i64 0) := (cell_of_row W5 _ 2 _ _ _ hW).trans rfl
      have q3 : W5.cell? ⟨w.heap.size, 3, none⟩ = some (.int .i64 0) := (cell_of_row W5 _ 3 _ _ _ hW).trans rfl
      have q4 : W5.cell? ⟨w.heap.size, 4, none⟩ = some (.slice none 0 0) := (cell_of_row W5 _ 4 _ _ _ hW).trans rfl
      exact bodyPost_ret (v := .tuple #[cval ⟨0, 0, 0, 0, []⟩ none 0, .int .i64 5]) (by simp [results, Try.results16, go_sem, q0, q1, q2, q3, q4]) rfl ⟨none, 0, rfl, Row.nil, hB, fun _ _ _ h => by cases h⟩
end Go.Proofs.Ytogegnikpjcpdaa
