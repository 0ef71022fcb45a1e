/- DotS, DotT, Ctx, Less, Flat -/
import Derived.Test.YtogegnikpjcpdaaCk03
import Derived.Test.YtogegnikpjcpdaaCk02
/- dot.Make. -/
namespace Go.Proofs.Ytogegnikpjcpdaa
set_option linter.unusedVariables false
open Go.ChangeShapes Go.WideShapes Go.ChangeAt Go.RowKit

/-- A context and an error. -/
def CtxErr (c : Ctx) (x : Int) (w : World) (e : Ending) (w' : World) : Prop :=
  ∃ A k, e = .returned (.tuple #[cval c A k, .int .i64 x]) ∧ Row w' w'.heap.size A (dcells c.cloud) ∧ Below w.heap.size w w' ∧ NewAt w.heap.size A

def makeC (l : List (Int × Int)) : Ctx := if 400 < l.length then ⟨0, 0, 0, 0, []⟩ else if l.any (fun d => !rightB d.1 d.2) = true then ⟨0, 0, 0, 0, []⟩ else packL 0 0 0 0 l
def makeE (l : List (Int × Int)) : Int := if 400 < l.length then 2 else if l.any (fun d => !rightB d.1 d.2) = true then 5 else 0

set_option maxHeartbeats 1000000 in
set_option maxRecDepth 100000 in
theorem make_any (l : List (Int × Int)) (A : Option Addr) (k : Nat) (w : World) (hr : Row w w.heap.size A (dcells l)) (hl : l.length ≤ 9223372036854775807) :
    Calls Try.prog 16 #[.slice A l.length k] w (CtxErr (makeC l) (makeE l) w) := by
  have HR := hid hr
  clear hr
  by_cases h4 : 400 < l.length
  · have hc : makeC l = ⟨0, 0, 0, 0, []⟩ := by simp [makeC, h4]
    have he : makeE l = 2 := by simp [makeE, h4]
    rw [hc, he]
    have hd : decide ((400 : Int) < (l.length : Int)) = true := by simp; omega
    clear hc he
    go_enter Try.func16, Try.ntmps16
    go_wp2
    exact bodyPost_ret (v := .tuple #[cval ⟨0, 0, 0, 0, []⟩ none 0, .int .i64 2]) (by simp [results, Try.results16, go_sem]) rfl ⟨none, 0, rfl, Row.nil, by (repeat' (first | (with_reducible exact Below.refl _ _) | (with_reducible assumption) | (with_reducible refine below_drewN ?_ _) | (with_reducible refine Below.drew ?_) | (with_reducible refine Below.alloc ?_ ?_ _) | (with_reducible refine Below.setCell ?_ ?_ _) | (refine Below.trans ?_ (Below.mono (by assumption) ?_)) | go_size)), fun _ _ _ h => by cases h⟩
  · have hd : decide ((400 : Int) < (l.length : Int)) = false := by simp; omega
    have HCF := hid (fun w1 (hb : Below w.heap.size w w1) => containsFunc_any 62 #[] (fun d => !rightB d.1 d.2) l A k w1 ((HR.out.below hb (Nat.le_refl _)).more hb.size) hl enters_makeF (predMake l w1))
    cases hany : l.any (fun d => !rightB d.1 d.2)
    · have hc : makeC l = packL 0 0 0 0 l := by rw [makeC, if_neg h4, if_neg (by simp [hany])]
      have he : makeE l = 0 := by rw [makeE, if_neg h4, if_neg (by simp [hany])]
      rw [hc, he]
      have hrt : ∀ d ∈ l, rightB d.1 d.2 = true := fun d hd => by
        rw [List.any_eq_false] at hany
        have := hany d hd
        simpa using this
      have HP := hid (fun w1 (hb : Below w.heap.size w w1) => packed_any 0 0 0 0 l A k w1 ((HR.out.below hb (Nat.le_refl _)).more hb.size) (by omega) (by simp [clkIn]) hrt)
      rw [hany] at HCF
      have HANY := hid hany
      clear hc he hrt hany
      go_enter Try.func16, Try.ntmps16
      go_wp2_with fail
      refine (HCF.out _ (by (repeat' (first | (with_reducible exact Below.refl _ _) | (with_reducible assumption) | (with_reducible refine below_drewN ?_ _) | (with_reducible refine Below.drew ?_) | (with_reducible refine Below.alloc ?_ ?_ _) | (with_reducible refine Below.setCell ?_ ?_ _) | (refine Below.trans ?_ (Below.mono (by assumption) ?_)) | go_size)))).mono ?_
      rintro e w1 ⟨rfl, hb1⟩
      go_wp2_with fail
      refine (HP.out _ (by (repeat' (first | (with_reducible exact Below.refl _ _) | (with_reducible assumption) | (with_reducible refine below_drewN ?_ _) | (with_reducible refine Below.drew ?_) | (with_reducible refine Below.alloc ?_ ?_ _) | (with_reducible refine Below.setCell ?_ ?_ _) | (refine Below.trans ?_ (Below.mono (by assumption) ?_)) | go_size)))).mono ?_
      rintro e w2 ⟨A', kk, rfl, hrow, hb2, hnew⟩
      simp at hb1 hb2
      have hB2 := hb1.trans (hb2.mono (by have := hb1.size; simp at this; omega))
      have hBB : Below w.heap.size w w2 := ((Below.refl w.heap.size w).alloc (Nat.le_refl _) _).trans (hB2.mono (by omega))
      have hR : w2.heap[w.heap.size]? = some (.cells #[.int .i64 0, .int .i64 0, .int .i64 0, .int .i64 0, .slice none 0 0] 25 (0, 0)) := (hB2.block w.heap.size (by omega)).trans (heap_alloc_new w _)
      generalize packL 0 0 0 0 l = c at *
      have r0 : w2.cell? ⟨w.heap.size, 0, none⟩ = some (.int .i64 0) := (cell_of_row w2 _ 0 _ _ _ hR).trans rfl
      have r1 : w2.cell? ⟨w.heap.size, 1, none⟩ = some (.int .i64 0) := (cell_of_row w2 _ 1 _ _ _ hR).trans rfl
      have r2 : w2.cell? ⟨w.heap.size, 2, none⟩ = some (.int .i64 0) := (cell_of_row w2 _ 2 _ _ _ hR).trans rfl
      have r3 : w2.cell? ⟨w.heap.size, 3, none⟩ = some (.int .i64 0) := (cell_of_row w2 _ 3 _ _ _ hR).trans rfl
      have r4 : w2.cell? ⟨w.heap.size, 4, none⟩ = some (.slice none 0 0) := (cell_of_row w2 _ 4 _ _ _ hR).trans rfl
      have f0 := fun j => frozen_of_row w2 w.heap.size j _ _ hR
      have HRR := hid hR
      clear hR
      go_wp2
      have hnew' : NewAt (w.heap.size + 1) A' := fun b off q e => by have := hnew b off q e; have := hb1.size; simp at this; omega
      have hW := heap_setCell_same _ w.heap.size 4 _ _ (.slice A' c.cloud.length kk) (heap_setCell_same _ w.heap.size 3 _ _ (.int .i64 c.c3) (heap_setCell_same _ w.heap.size 2 _ _ (.int .i64 c.c2) (heap_setCell_same _ w.heap.size 1 _ _ (.int .i64 c.c1) (heap_setCell_same w2 w.heap.size 0 _ _ (.int .i64 c.c0) HRR.out))))
      have hB := (((((hBB).setCell (p := ⟨w.heap.size, 0, none⟩) (Nat.le_refl _) (.int .i64 c.c0)).setCell (p := ⟨w.heap.size, 1, none⟩) (Nat.le_refl _) (.int .i64 c.c1)).setCell (p := ⟨w.heap.size, 2, none⟩) (Nat.le_refl _) (.int .i64 c.c2)).setCell (p := ⟨w.heap.size, 3, none⟩) (Nat.le_refl _) (.int .i64 c.c3)).setCell (p := ⟨w.heap.size, 4, none⟩) (Nat.le_refl _) (.slice A' c.cloud.length kk)
      have hO := (((((hrow).setCell_new hnew' (a := ⟨w.heap.size, 0, none⟩) (Nat.lt_succ_self _) (.int .i64 c.c0)).setCell_new hnew' (a := ⟨w.heap.size, 1, none⟩) (Nat.lt_succ_self _) (.int .i64 c.c1)).setCell_new hnew' (a := ⟨w.heap.size, 2, none⟩) (Nat.lt_succ_self _) (.int .i64 c.c2)).setCell_new hnew' (a := ⟨w.heap.size, 3, none⟩) (Nat.lt_succ_self _) (.int .i64 c.c3)).setCell_new hnew' (a := ⟨w.heap.size, 4, none⟩) (Nat.lt_succ_self _) (.slice A' c.cloud.length kk)
      have hsz : (((((w2.setCell ⟨w.heap.size, 0, none⟩ (.int .i64 c.c0)).setCell ⟨w.heap.size, 1, none⟩ (.int .i64 c.c1)).setCell ⟨w.heap.size, 2, none⟩ (.int .i64 c.c2)).setCell ⟨w.heap.size, 3, none⟩ (.int .i64 c.c3)).setCell ⟨w.heap.size, 4, none⟩ (.slice A' c.cloud.length kk)).heap.size = w2.heap.size := by simp
      rw [← hsz] at hO
      generalize (((((w2.setCell ⟨w.heap.size, 0, none⟩ (.int .i64 c.c0)).setCell ⟨w.heap.size, 1, none⟩ (.int .i64 c.c1)).setCell ⟨w.heap.size, 2, none⟩ (.int .i64 c.c2)).setCell ⟨w.heap.size, 3, none⟩ (.int .i64 c.c3)).setCell ⟨w.heap.size, 4, none⟩ (.slice A' c.cloud.length kk)) = W5 at *
      have q0 : W5.cell? ⟨w.heap.size, 0, none⟩ = some (.int .i64 c.c0) := (cell_of_row W5 _ 0 _ _ _ hW).trans rfl
      have q1 : W5.cell? ⟨w.heap.size, 1, none⟩ = some (.int .i64 c.c1) := (cell_of_row W5 _ 1 _ _ _ hW).trans rfl
      have q2 : W5.cell? ⟨w.heap.size, 2, none⟩ = some (.int .i64 c.c2) := (cell_of_row W5 _ 2 _ _ _ hW).trans rfl
      have q3 : W5.cell? ⟨w.heap.size, 3, none⟩ = some (.int .i64 c.c3) := (cell_of_row W5 _ 3 _ _ _ hW).trans rfl
      have q4 : W5.cell? ⟨w.heap.size, 4, none⟩ = some (.slice A' c.cloud.length kk) := (cell_of_row W5 _ 4 _ _ _ hW).trans rfl
      exact bodyPost_ret (v := .tuple #[cval c A' kk, .int .i64 0]) (by simp [results, Try.results16, go_sem, q0, q1, q2, q3, q4]) rfl ⟨A', kk, rfl, hO, hB, fun b off q e => by have := hnew' b off q e; omega⟩
    · have hc : makeC l = ⟨0, 0, 0, 0, []⟩ := by rw [makeC, if_neg h4, if_pos hany]
      have he : makeE l = 5 := by rw [makeE, if_neg h4, if_pos hany]
      rw [hc, he]
      rw [hany] at HCF
      have HANY := hid hany
      clear hc he hany
      go_enter Try.func16, Try.ntmps16
      go_wp2_with fail
      refine (HCF.out _ (by (repeat' (first | (with_reducible exact Below.refl _ _) | (with_reducible assumption) | (with_reducible refine below_drewN ?_ _) | (with_reducible refine Below.drew ?_) | (with_reducible refine Below.alloc ?_ ?_ _) | (with_reducible refine Below.setCell ?_ ?_ _) | (refine Below.trans ?_ (Below.mono (by assumption) ?_)) | go_size)))).mono ?_
      rintro e w1 ⟨rfl, hb1⟩
      simp at hb1
      have hBB : Below w.heap.size w w1 := ((Below.refl w.heap.size w).alloc (Nat.le_refl _) _).trans (hb1.mono (by omega))
      have hR : w1.heap[w.heap.size]? = some (.cells #[.int .i64 0, .int .i64 0, .int .i64 0, .int .i64 0, .slice none 0 0] 25 (0, 0)) := (hb1.block w.heap.size (by omega)).trans (heap_alloc_new w _)
      have r0 : w1.cell? ⟨w.heap.size, 0, none⟩ = some (.int .i64 0) := (cell_of_row w1 _ 0 _ _ _ hR).trans rfl
      have r1 : w1.cell? ⟨w.heap.size, 1, none⟩ = some (.int .i64 0) := (cell_of_row w1 _ 1 _ _ _ hR).trans rfl
      have r2 : w1.cell? ⟨w.heap.size, 2, none⟩ = some (.int .i64 0) := (cell_of_row w1 _ 2 _ _ _ hR).trans rfl
      have r3 : w1.cell? ⟨w.heap.size, 3, none⟩ = some (.int .i64 0) := (cell_of_row w1 _ 3 _ _ _ hR).trans rfl
      have r4 : w1.cell? ⟨w.heap.size, 4, none⟩ = some (.slice none 0 0) := (cell_of_row w1 _ 4 _ _ _ hR).trans rfl
      have f0 := fun j => frozen_of_row w1 w.heap.size j _ _ hR
      have HRR := hid hR
      clear hR
      go_wp2
      have hW := heap_setCell_same _ w.heap.size 4 _ _ (.slice none 0 0) (heap_setCell_same _ w.heap.size 3 _ _ (.int .i64 0) (heap_setCell_same _ w.heap.size 2 _ _ (.int .i64 0) (heap_setCell_same _ w.heap.size 1 _ _ (.int .i64 0) (heap_setCell_same w1 w.heap.size 0 _ _ (.int .i64 0) HRR.out))))
      have hB := (((((hBB).setCell (p := ⟨w.heap.size, 0, none⟩) (Nat.le_refl _) (.int .i64 0)).setCell (p := ⟨w.heap.size, 1, none⟩) (Nat.le_refl _) (.int .i64 0)).setCell (p := ⟨w.heap.size, 2, none⟩) (Nat.le_refl _) (.int .i64 0)).setCell (p := ⟨w.heap.size, 3, none⟩) (Nat.le_refl _) (.int .i64 0)).setCell (p := ⟨w.heap.size, 4, none⟩) (Nat.le_refl _) (.slice none 0 0)
      generalize (((((w1.setCell ⟨w.heap.size, 0, none⟩ (.int .i64 0)).setCell ⟨w.heap.size, 1, none⟩ (.int .i64 0)).setCell ⟨w.heap.size, 2, none⟩ (.int .i64 0)).setCell ⟨w.heap.size, 3, none⟩ (.int .i64 0)).setCell ⟨w.heap.size, 4, none⟩ (.slice none 0 0)) = W5 at *
      have q0 : W5.cell? ⟨w.heap.size, 0, none⟩ = some (.int .i64 0) := (cell_of_row W5 _ 0 _ _ _ hW).trans rfl
      have q1 : W5.cell? ⟨w.heap.size, 1, none⟩ = some (.int .i64 0) := (cell_of_row W5 _ 1 _ _ _ hW).trans rfl
      have q2 : W5.cell? ⟨w.heap.size, 2, none⟩ = some (.int .i64 0) := (cell_of_row W5 _ 2 _ _ _ hW).trans rfl
      have q3 : W5.cell? ⟨w.heap.size, 3, none⟩ = some (.int .i64 0) := (cell_of_row W5 _ 3 _ _ _ hW).trans rfl
      have q4 : W5.cell? ⟨w.heap.size, 4, none⟩ = some (.slice none 0 0) := (cell_of_row W5 _ 4 _ _ _ hW).trans rfl
      exact bodyPost_ret (v := .tuple #[cval ⟨0, 0, 0, 0, []⟩ none 0, .int .i64 5]) (by simp [results, Try.results16, go_sem, q0, q1, q2, q3, q4]) rfl ⟨none, 0, rfl, Row.nil, hB, fun _ _ _ h => by cases h⟩
end Go.Proofs.Ytogegnikpjcpdaa
/- viewref.Next, dot.Next. -/
namespace Go.Proofs.Ytogegnikpjcpdaa
set_option linter.unusedVariables false
open Go.ChangeShapes Go.WideShapes Go.ChangeAt Go.RowKit

def stepS (i m : Int) (d : Int × Int) : Int := if d.1 = i ∧ m < d.2 then d.2 else m
def maxS (c : Ctx) (i : Int) : Int := c.cloud.foldl (stepS i) (c.at_ i)
def rnextD (c : Ctx) (i : Int) : Int × Int := if 1099511627776 ≤ maxS c i then (0, 0) else (i, maxS c i + 1)
def rnextE (c : Ctx) (i : Int) : Int := if 1099511627776 ≤ maxS c i then 2 else 0
def nextD (c : Ctx) (i : Int) : Int × Int := if checkI c ≠ 0 then (0, 0) else if inB i 0 3 = false then (0, 0) else rnextD c i
def nextE (c : Ctx) (i : Int) : Int := if checkI c ≠ 0 then checkI c else if inB i 0 3 = false then 1 else rnextE c i

/-- A dot and an error. -/
def DotErr (d : Int × Int) (x : Int) (w : World) (e : Ending) (w' : World) : Prop :=
  e = .returned (.tuple #[dval d, .int .i64 x]) ∧ Below w.heap.size w w'

theorem stepS_le (i m : Int) (d : Int × Int) : m ≤ stepS i m d := by unfold stepS; split <;> omega
theorem take_step {α β : Type} (f : β → α → β) (b : β) (l : List α) (k : Nat) (h : k < l.length) : (l.take (k + 1)).foldl f b = f ((l.take k).foldl f b) l[k] := by
  rw [List.take_succ_eq_append_getElem h, List.foldl_append]; rfl

theorem checkI_zero {c : Ctx} (h : checkI c = 0) : clkIn c ∧ c.cloud.length ≤ 400 ∧ ∀ d ∈ c.cloud, rightB d.1 d.2 = true := by
  unfold checkI at h
  split at h
  · cases h
  · rename_i h1
    split at h
    · cases h
    · rename_i h2
      split at h
      · cases h
      · rename_i h3
        simp [clkOk] at h1
        refine ⟨by simp [clkIn]; omega, by omega, fun d hd => ?_⟩
        obtain ⟨j, hj, rfl⟩ := List.getElem_of_mem hd
        have h4 : badAt c j = false := by
          cases hb : badAt c j
          · rfl
          · exact absurd (List.any_eq_true.2 ⟨j, List.mem_range.2 hj, hb⟩) h3
        have hg : c.cloud.getD j (0, 0) = c.cloud[j] := by simp [List.getD, hj]
        unfold badAt at h4
        simp only [hg] at h4
        cases hr : rightB (c.cloud[j]).1 (c.cloud[j]).2
        · rw [hr] at h4; simp at h4
        · rfl

set_option maxHeartbeats 1000000 in
set_option maxRecDepth 100000 in
theorem Rnext_any (c : Ctx) (i : Int) (A : Option Addr) (k0 : Nat) (w : World) (hr : Row w w.heap.size A (dcells c.cloud)) (hl : c.cloud.length ≤ 9223372036854775807) (hc : clkIn c) (hi0 : 0 ≤ i) (hi4 : i < 4) :
    Calls Try.prog 22 #[cval c A k0, .int .i64 i] w (DotErr (rnextD c i) (rnextE c i) w) := by
  obtain ⟨hat0, hat1⟩ := at_in hc i
  have hM : maxS c i = c.cloud.foldl (stepS i) (c.at_ i) := rfl
  have hD : rnextD c i = if 1099511627776 ≤ maxS c i then (0, 0) else (i, maxS c i + 1) := rfl
  have hE : rnextE c i = if 1099511627776 ≤ maxS c i then 2 else 0 := rfl
  have hat := at_cell c i hi0 hi4
  generalize rnextD c i = D at *
  generalize rnextE c i = X at *
  generalize maxS c i = M at *
  generalize hm0 : c.at_ i = m0 at *
  clear hm0
  obtain ⟨c0, c1, c2, c3, l⟩ := c
  have HR := hid hr
  have HM := hid hM
  have HD := hid hD
  have HE := hid hE
  have HAT := hid hat
  clear hr hM hD hE hc hat
  have ha := HAT.out (.slice A l.length k0)
  simp only [cval] at *
  go_enter Try.func22, Try.ntmps22
  go_wp2
  clear ha
  go_loopw [6, 7] (fun s6 s7 wr => ∃ (k : Nat) (m : Int), k ≤ l.length ∧ s7 = .int .i64 k ∧ s6 = .int .i64 m ∧ m = (l.take k).foldl (stepS i) m0 ∧ 0 ≤ m ∧ Below (w.heap.size + 1 + 1) ((w.alloc (.cells #[.int .i64 c0, .int .i64 c1, .int .i64 c2, .int .i64 c3, .slice A l.length k0] 25)).alloc (.cells #[.int .i64 0, .int .i64 0] 27)) wr) (fun _ s7 _ => l.length - (intOf s7).toNat)
  case atStart => exact ⟨0, m0, by omega, rfl, rfl, rfl, hat0, Below.refl _ _⟩
  case round =>
    obtain ⟨k, m, hk, rfl, rfl, hm, hm0, hbw⟩ := hrel
    have hB := (bcell hbw).1
    have hF := (bcell hbw).2
    have e0 : wr.cell? ⟨w.heap.size, 4, none⟩ = some (.slice A l.length k0) := by rw [hB _ _ (by omega)]; simp [go_sem]
    have e1 : wr.cell? ⟨w.heap.size + 1, 0, none⟩ = some (.int .i64 0) := by rw [hB _ _ (by omega)]; simp [go_sem]
    have e2 : wr.cell? ⟨w.heap.size + 1, 1, none⟩ = some (.int .i64 0) := by rw [hB _ _ (by omega)]; simp [go_sem]
    have hRB : wr.heap[w.heap.size + 1]? = some (.cells #[.int .i64 0, .int .i64 0] 27 (0, 0)) := by
      refine (hbw.block (w.heap.size + 1) (by omega)).trans ?_
      have := heap_alloc_new (w.alloc (.cells #[.int .i64 c0, .int .i64 c1, .int .i64 c2, .int .i64 c3, .slice A l.length k0] 25)) (.cells #[.int .i64 0, .int .i64 0] 27)
      simpa using this
    have hW : Below w.heap.size w wr := Below.trans (b := (w.alloc _).alloc _) (by (repeat' (first | (with_reducible exact Below.refl _ _) | (with_reducible assumption) | (with_reducible refine below_drewN ?_ _) | (with_reducible refine Below.drew ?_) | (with_reducible refine Below.alloc ?_ ?_ _) | (with_reducible refine Below.setCell ?_ ?_ _) | (refine Below.trans ?_ (Below.mono (by assumption) ?_)) | go_size))) (hbw.mono (by omega))
    have HB := hid hbw
    have HW := hid hW
    have HMM := hid hm
    have HRB := hid hRB
    clear hB hF hbw hm hRB
    by_cases hlt : k < l.length
    · obtain ⟨b, off, rfl, hb, h0, h1⟩ := (HR.out.below hW (Nat.le_refl _)).dot hlt
      clear hW
      have hs := take_step (stepS i) m0 l k hlt
      generalize hd : l[k] = d at *
      obtain ⟨d0, d1⟩ := d
      have HS := hid hs
      clear hd hs
      simp only at h0 h1
      by_cases q1 : d0 = i
      · by_cases q2 : m < d1
        · have q3 : (d0 == i) = true := by simp [q1]
          have hd : decide (m < d1) = true := by simp [q2]
          have q4 : 0 ≤ d1 := by omega
          go_wp2
          go_roundw
          case rel => exact ⟨k + 1, d1, by omega, by go_num, rfl, by rw [HS.out, ← HMM.out, stepS, if_pos ⟨q1, q2⟩], q4, HB.out⟩
          case measure => simp [intOf]; omega
        · have q3 : (d0 == i) = true := by simp [q1]
          have hd : decide (m < d1) = false := by simp; omega
          go_wp2
          go_roundw
          case rel => exact ⟨k + 1, m, by omega, by go_num, rfl, by rw [HS.out, ← HMM.out, stepS, if_neg (fun h => q2 h.2)], hm0, HB.out⟩
          case measure => simp [intOf]; omega
      · have q3 : (d0 == i) = false := by simp [q1]
        go_wp2
        go_roundw
        case rel => exact ⟨k + 1, m, by omega, by go_num, rfl, by rw [HS.out, ← HMM.out, stepS, if_neg (fun h => q1 h.1)], hm0, HB.out⟩
        case measure => simp [intOf]; omega
    · have he : m = M := by rw [HMM.out, HM.out, show k = l.length by omega, List.take_length]
      subst he
      have f0 := fun j => frozen_of_row wr (w.heap.size + 1) j _ _ HRB.out
      clear hW
      by_cases q : 1099511627776 ≤ m
      · have hd : decide ((1099511627776 : Int) ≤ m) = true := by simp [q]
        go_wp2
        have hD := HD.out
        have hE := HE.out
        rw [if_pos q] at hD hE
        subst hD hE
        have hW := heap_setCell_same _ (w.heap.size + 1) 1 _ _ (.int .i64 0) (heap_setCell_same wr (w.heap.size + 1) 0 _ _ (.int .i64 0) HRB.out)
        have hB := (HW.out.setCell (p := ⟨w.heap.size + 1, 0, none⟩) (Nat.le_succ _) (.int .i64 0)).setCell (p := ⟨w.heap.size + 1, 1, none⟩) (Nat.le_succ _) (.int .i64 0)
        generalize (wr.setCell ⟨w.heap.size + 1, 0, none⟩ (.int .i64 0)).setCell ⟨w.heap.size + 1, 1, none⟩ (.int .i64 0) = W5 at *
        have q0 : W5.cell? ⟨w.heap.size + 1, 0, none⟩ = some (.int .i64 0) := (cell_of_row W5 _ 0 _ _ _ hW).trans rfl
        have q1 : W5.cell? ⟨w.heap.size + 1, 1, none⟩ = some (.int .i64 0) := (cell_of_row W5 _ 1 _ _ _ hW).trans rfl
        exact bodyPost_ret (v := .tuple #[dval (0, 0), .int .i64 2]) (by simp [results, Try.results22, go_sem, q0, q1, dval]) rfl ⟨rfl, hB⟩
      · have hd : decide ((1099511627776 : Int) ≤ m) = false := by simp; omega
        have zw : IntKind.i64.wrap (m + 1) = m + 1 := IntWalk.i64_in _ (by omega)
        go_wp2
        have hD := HD.out
        have hE := HE.out
        rw [if_neg (by omega)] at hD hE
        subst hD hE
        have hW := heap_setCell_same _ (w.heap.size + 1) 1 _ _ (.int .i64 (m + 1)) (heap_setCell_same wr (w.heap.size + 1) 0 _ _ (.int .i64 i) HRB.out)
        have hB := (HW.out.setCell (p := ⟨w.heap.size + 1, 0, none⟩) (Nat.le_succ _) (.int .i64 i)).setCell (p := ⟨w.heap.size + 1, 1, none⟩) (Nat.le_succ _) (.int .i64 (m + 1))
        generalize (wr.setCell ⟨w.heap.size + 1, 0, none⟩ (.int .i64 i)).setCell ⟨w.heap.size + 1, 1, none⟩ (.int .i64 (m + 1)) = W5 at *
        have q0 : W5.cell? ⟨w.heap.size + 1, 0, none⟩ = some (.int .i64 i) := (cell_of_row W5 _ 0 _ _ _ hW).trans rfl
        have q1 : W5.cell? ⟨w.heap.size + 1, 1, none⟩ = some (.int .i64 (m + 1)) := (cell_of_row W5 _ 1 _ _ _ hW).trans rfl
        exact bodyPost_ret (v := .tuple #[dval (i, m + 1), .int .i64 0]) (by simp [results, Try.results22, go_sem, q0, q1, dval]) rfl ⟨rfl, hB⟩

set_option maxHeartbeats 1000000 in
set_option maxRecDepth 100000 in
theorem next_any (c : Ctx) (i : Int) (A : Option Addr) (k0 : Nat) (w : World) (hr : Row w w.heap.size A (dcells c.cloud)) (hl : c.cloud.length ≤ 9223372036854775807) :
    Calls Try.prog 23 #[cval c A k0, .int .i64 i] w (DotErr (nextD c i) (nextE c i) w) := by
  have HCK := hid (fun w1 (hb : Below w.heap.size w w1) => check_any c A k0 w1 ((hr.below hb (Nat.le_refl _)).more hb.size) hl)
  have hD : nextD c i = if checkI c ≠ 0 then (0, 0) else if inB i 0 3 = false then (0, 0) else if 1099511627776 ≤ maxS c i then (0, 0) else (i, maxS c i + 1) := rfl
  have hE : nextE c i = if checkI c ≠ 0 then checkI c else if inB i 0 3 = false then 1 else if 1099511627776 ≤ maxS c i then 2 else 0 := rfl
  have hZ : checkI c = 0 → clkIn c ∧ ∀ d ∈ c.cloud, rightB d.1 d.2 = true := fun h => ⟨(checkI_zero h).1, (checkI_zero h).2.2⟩
  have hM : maxS c i = c.cloud.foldl (stepS i) (c.at_ i) := rfl
  have hat := fun h0 h4 => at_cell c i h0 h4
  have hain : clkIn c → 0 ≤ c.at_ i ∧ c.at_ i ≤ 1099511627776 := fun h => at_in h i
  generalize nextD c i = D at *
  generalize nextE c i = X at *
  generalize maxS c i = M at *
  generalize checkI c = E at *
  generalize hm0 : c.at_ i = m0 at *
  clear hm0
  generalize clkIn c = CI at *
  obtain ⟨c0, c1, c2, c3, l⟩ := c
  have HR := hid hr
  have HM := hid hM
  have HD := hid hD
  have HE := hid hE
  have HZ := hid hZ
  have HAT := hid hat
  have HAI := hid hain
  clear hr hM hD hE hat hZ hain
  simp only [cval] at *
  go_enter Try.func23, Try.ntmps23
  go_wp2_with fail
  refine (HCK.out _ (by (repeat' (first | (with_reducible exact Below.refl _ _) | (with_reducible assumption) | (with_reducible refine below_drewN ?_ _) | (with_reducible refine Below.drew ?_) | (with_reducible refine Below.alloc ?_ ?_ _) | (with_reducible refine Below.setCell ?_ ?_ _) | (refine Below.trans ?_ (Below.mono (by assumption) ?_)) | go_size)))).mono ?_
  rintro e w1 ⟨rfl, hb1⟩
  have hRB : w1.heap[w.heap.size + 1]? = some (.cells #[.int .i64 0, .int .i64 0] 27 (0, 0)) := by
    refine (hb1.block (w.heap.size + 1) (by simp)).trans ?_
    have := heap_alloc_new (w.alloc (.cells #[.int .i64 c0, .int .i64 c1, .int .i64 c2, .int .i64 c3, .slice A l.length k0] 25)) (.cells #[.int .i64 0, .int .i64 0] 27)
    simpa using this
  have hCB : w1.heap[w.heap.size]? = some (.cells #[.int .i64 c0, .int .i64 c1, .int .i64 c2, .int .i64 c3, .slice A l.length k0] 25 (0, 0)) := by
    refine (hb1.block w.heap.size (by simp; omega)).trans ((Below.heap_alloc _ _ _ (by simp)).trans (heap_alloc_new w _))
  have hW1 : Below w.heap.size w w1 := Below.trans (b := (w.alloc _).alloc _) (by (repeat' (first | (with_reducible exact Below.refl _ _) | (with_reducible assumption) | (with_reducible refine below_drewN ?_ _) | (with_reducible refine Below.drew ?_) | (with_reducible refine Below.alloc ?_ ?_ _) | (with_reducible refine Below.setCell ?_ ?_ _) | (refine Below.trans ?_ (Below.mono (by assumption) ?_)) | go_size))) (hb1.mono (by simp; omega))
  have hsz1 : w.heap.size + 1 < w1.heap.size := by have := hb1.size; simp at this; omega
  have HW1 := hid hW1
  have HRB1 := hid hRB
  have HCB1 := hid hCB
  have f0 := fun j => frozen_of_row w1 (w.heap.size + 1) j _ _ hRB
  have e0 : w1.cell? ⟨w.heap.size + 1, 0, none⟩ = some (.int .i64 0) := (cell_of_row w1 _ 0 _ _ _ hRB).trans rfl
  have e1 : w1.cell? ⟨w.heap.size + 1, 1, none⟩ = some (.int .i64 0) := (cell_of_row w1 _ 1 _ _ _ hRB).trans rfl
  have e4 : w1.cell? ⟨w.heap.size, 4, none⟩ = some (.slice A l.length k0) := (cell_of_row w1 _ 4 _ _ _ hCB).trans rfl
  clear hb1 hW1 hRB
  by_cases qE : E = 0
  rotate_left
  · have HRB := HRB1
    have qe : (E == 0) = false := by simp [qE]
    have hD := HD.out
    have hE := HE.out
    rw [if_pos qE] at hD hE
    subst hD hE
    go_wp2
    have hW := heap_setCell_same _ (w.heap.size + 1) 1 _ _ (.int .i64 0) (heap_setCell_same w1 (w.heap.size + 1) 0 _ _ (.int .i64 0) HRB.out)
    have hB := (HW1.out.setCell (p := ⟨w.heap.size + 1, 0, none⟩) (Nat.le_succ _) (.int .i64 0)).setCell (p := ⟨w.heap.size + 1, 1, none⟩) (Nat.le_succ _) (.int .i64 0)
    generalize (w1.setCell ⟨w.heap.size + 1, 0, none⟩ (.int .i64 0)).setCell ⟨w.heap.size + 1, 1, none⟩ (.int .i64 0) = W5 at *
    have q0 : W5.cell? ⟨w.heap.size + 1, 0, none⟩ = some (.int .i64 0) := (cell_of_row W5 _ 0 _ _ _ hW).trans rfl
    have q1 : W5.cell? ⟨w.heap.size + 1, 1, none⟩ = some (.int .i64 0) := (cell_of_row W5 _ 1 _ _ _ hW).trans rfl
    exact bodyPost_ret (v := .tuple #[dval (0, 0), .int .i64 X]) (by simp [results, Try.results23, go_sem, q0, q1, dval]) rfl ⟨rfl, hB⟩
  · subst qE
    obtain ⟨hci, hrt⟩ := HZ.out rfl
    have hD := HD.out
    have hE := HE.out
    rw [if_neg (by simp)] at hD hE
    have HD := hid hD
    have HE := hid hE
    have HRT := hid hrt
    obtain ⟨ha0, ha1⟩ := HAI.out hci
    clear hci hrt hD hE
    by_cases qi : inB i 0 3 = false
    · have hD := HD.out
      have hE := HE.out
      rw [if_pos qi] at hD hE
      subst hD hE
      have HRB := HRB1
      by_cases q0 : i < 0
      · have hd0 : decide (i < 0) = true := by simp [q0]
        clear qi
        go_wp2
        have hW := heap_setCell_same _ (w.heap.size + 1) 1 _ _ (.int .i64 0) (heap_setCell_same w1 (w.heap.size + 1) 0 _ _ (.int .i64 0) HRB.out)
        have hB := (HW1.out.setCell (p := ⟨w.heap.size + 1, 0, none⟩) (Nat.le_succ _) (.int .i64 0)).setCell (p := ⟨w.heap.size + 1, 1, none⟩) (Nat.le_succ _) (.int .i64 0)
        generalize (w1.setCell ⟨w.heap.size + 1, 0, none⟩ (.int .i64 0)).setCell ⟨w.heap.size + 1, 1, none⟩ (.int .i64 0) = W5 at *
        have q0 : W5.cell? ⟨w.heap.size + 1, 0, none⟩ = some (.int .i64 0) := (cell_of_row W5 _ 0 _ _ _ hW).trans rfl
        have q1 : W5.cell? ⟨w.heap.size + 1, 1, none⟩ = some (.int .i64 0) := (cell_of_row W5 _ 1 _ _ _ hW).trans rfl
        exact bodyPost_ret (v := .tuple #[dval (0, 0), .int .i64 1]) (by simp [results, Try.results23, go_sem, q0, q1, dval]) rfl ⟨rfl, hB⟩
      · have hd0 : decide (i < 0) = false := by simp; omega
        have hd1 : decide (4 ≤ i) = true := by simp [inB] at qi; simp; omega
        clear qi
        go_wp2
        have hW := heap_setCell_same _ (w.heap.size + 1) 1 _ _ (.int .i64 0) (heap_setCell_same w1 (w.heap.size + 1) 0 _ _ (.int .i64 0) HRB.out)
        have hB := (HW1.out.setCell (p := ⟨w.heap.size + 1, 0, none⟩) (Nat.le_succ _) (.int .i64 0)).setCell (p := ⟨w.heap.size + 1, 1, none⟩) (Nat.le_succ _) (.int .i64 0)
        generalize (w1.setCell ⟨w.heap.size + 1, 0, none⟩ (.int .i64 0)).setCell ⟨w.heap.size + 1, 1, none⟩ (.int .i64 0) = W5 at *
        have q0 : W5.cell? ⟨w.heap.size + 1, 0, none⟩ = some (.int .i64 0) := (cell_of_row W5 _ 0 _ _ _ hW).trans rfl
        have q1 : W5.cell? ⟨w.heap.size + 1, 1, none⟩ = some (.int .i64 0) := (cell_of_row W5 _ 1 _ _ _ hW).trans rfl
        exact bodyPost_ret (v := .tuple #[dval (0, 0), .int .i64 1]) (by simp [results, Try.results23, go_sem, q0, q1, dval]) rfl ⟨rfl, hB⟩
    · have qi' : 0 ≤ i ∧ i ≤ 3 := by simpa [inB] using qi
      obtain ⟨i0, i3⟩ := qi'
      have hD := HD.out
      have hE := HE.out
      rw [if_neg qi] at hD hE
      have HD := hid hD
      have HE := hid hE
      have hd0 : decide (i < 0) = false := by simp; omega
      have hd1 : decide (4 ≤ i) = false := by simp; omega
      have i4 : i < 4 := by omega
      have en : w1.cell? ⟨w.heap.size, i.toNat, none⟩ = some (.int .i64 m0) := (cell_of_row w1 _ i.toNat _ _ _ HCB1.out).trans (HAT.out i0 i4 _)
      clear qi hD hE
      go_wp2
      clear en f0 e0 e1 e4 hd0 hd1
      obtain ⟨wo, hwo⟩ : ∃ wo : World, wo = w1 := ⟨_, rfl⟩
      go_loopw [7, 30] (fun s7 s30 wr => ∃ (k : Nat) (m : Int), k ≤ l.length ∧ s30 = .int .i64 k ∧ s7 = .int .i64 m ∧ m = (l.take k).foldl (stepS i) m0 ∧ 0 ≤ m ∧ m ≤ 1099511627776 ∧ Below w1.heap.size w1 wr) (fun _ s30 _ => l.length - (intOf s30).toNat)
      case atStart => exact ⟨0, m0, by omega, rfl, rfl, rfl, ha0, ha1, Below.refl _ _⟩
      case round =>
        obtain ⟨k, m, hk, rfl, rfl, hm, hm0, hm1, hbw⟩ := hrel
        have hRB := (hbw.block (w.heap.size + 1) hsz1).trans HRB1.out
        have hW := HW1.out.trans (hbw.mono (show w.heap.size ≤ w1.heap.size by omega))
        have hszr : w1.heap.size ≤ wr.heap.size := hbw.size
        have HB := hid hbw
        have HW := hid hW
        have HMM := hid hm
        have HRB := hid hRB
        clear hbw hm hRB
        by_cases hlt : k < l.length
        · obtain ⟨b, off, rfl, hb, h0, h1⟩ := (HR.out.below hW (Nat.le_refl _)).dot hlt
          clear hW
          have hs := take_step (stepS i) m0 l k hlt
          have hdr := HRT.out l[k] (List.getElem_mem _)
          generalize hd : l[k] = d at *
          obtain ⟨d0, d1⟩ := d
          have HS := hid hs
          clear hd hs
          simp only at h0 h1 hdr
          have hR : 0 ≤ d0 ∧ d0 < 4 ∧ 1 ≤ d1 ∧ d1 ≤ 1099511627776 := by simpa [rightB, and_assoc] using hdr
          obtain ⟨r0, r4, u0, u1⟩ := hR
          clear hdr
          have hne : (b = wr.heap.size) = False := by simp; omega
          have hb2 : b < wr.heap.size := by omega
          by_cases q1 : d0 = i
          · have q3 : (d0 == i) = true := by simp [q1]
            have hmx : max m d1 = stepS i m (d0, d1) := by unfold stepS; by_cases h : m < d1 <;> simp [q1, h] <;> omega
            have HMX := hid hmx
            clear hmx
            go_wp2
            go_roundw
            case rel => exact ⟨k + 1, max m d1, by omega, by go_num, rfl, by rw [HS.out, ← HMM.out]; exact HMX.out, by omega, by omega, HB.out.alloc (by omega) _⟩
            case measure => simp [intOf]; omega
          · have q3 : (d0 == i) = false := by simp [q1]
            go_wp2
            go_roundw
            case rel => exact ⟨k + 1, m, by omega, by go_num, rfl, by rw [HS.out, ← HMM.out, stepS, if_neg (fun h => q1 h.1)], hm0, hm1, HB.out.alloc (by omega) _⟩
            case measure => simp [intOf]; omega
        · have he : m = M := by rw [HMM.out, HM.out, show k = l.length by omega, List.take_length]
          subst he
          have f0 := fun j => frozen_of_row wr (w.heap.size + 1) j _ _ HRB.out
          have e0 : wr.cell? ⟨w.heap.size + 1, 0, none⟩ = some (.int .i64 0) := (cell_of_row wr _ 0 _ _ _ HRB.out).trans rfl
          have e1 : wr.cell? ⟨w.heap.size + 1, 1, none⟩ = some (.int .i64 0) := (cell_of_row wr _ 1 _ _ _ HRB.out).trans rfl
          clear hW
          by_cases q : 1099511627776 ≤ m
          · have qe : (m == 1099511627776) = true := by simp; omega
            go_wp2
            have hD := HD.out
            have hE := HE.out
            rw [if_pos q] at hD hE
            subst hD hE
            have hW := heap_setCell_same _ (w.heap.size + 1) 1 _ _ (.int .i64 0) (heap_setCell_same wr (w.heap.size + 1) 0 _ _ (.int .i64 0) HRB.out)
            have hB := (HW.out.setCell (p := ⟨w.heap.size + 1, 0, none⟩) (Nat.le_succ _) (.int .i64 0)).setCell (p := ⟨w.heap.size + 1, 1, none⟩) (Nat.le_succ _) (.int .i64 0)
            generalize (wr.setCell ⟨w.heap.size + 1, 0, none⟩ (.int .i64 0)).setCell ⟨w.heap.size + 1, 1, none⟩ (.int .i64 0) = W5 at *
            have q0 : W5.cell? ⟨w.heap.size + 1, 0, none⟩ = some (.int .i64 0) := (cell_of_row W5 _ 0 _ _ _ hW).trans rfl
            have q1 : W5.cell? ⟨w.heap.size + 1, 1, none⟩ = some (.int .i64 0) := (cell_of_row W5 _ 1 _ _ _ hW).trans rfl
            exact bodyPost_ret (v := .tuple #[dval (0, 0), .int .i64 2]) (by simp [results, Try.results23, go_sem, q0, q1, dval]) rfl ⟨rfl, hB⟩
          · have qe : (m == 1099511627776) = false := by simp; omega
            have zw : IntKind.i64.wrap (m + 1) = m + 1 := IntWalk.i64_in _ (by omega)
            go_wp2
            have hD := HD.out
            have hE := HE.out
            rw [if_neg (by omega)] at hD hE
            subst hD hE
            have hW := heap_setCell_same _ (w.heap.size + 1) 1 _ _ (.int .i64 (m + 1)) (heap_setCell_same wr (w.heap.size + 1) 0 _ _ (.int .i64 i) HRB.out)
            have hB := (HW.out.setCell (p := ⟨w.heap.size + 1, 0, none⟩) (Nat.le_succ _) (.int .i64 i)).setCell (p := ⟨w.heap.size + 1, 1, none⟩) (Nat.le_succ _) (.int .i64 (m + 1))
            generalize (wr.setCell ⟨w.heap.size + 1, 0, none⟩ (.int .i64 i)).setCell ⟨w.heap.size + 1, 1, none⟩ (.int .i64 (m + 1)) = W5 at *
            have q0 : W5.cell? ⟨w.heap.size + 1, 0, none⟩ = some (.int .i64 i) := (cell_of_row W5 _ 0 _ _ _ hW).trans rfl
            have q1 : W5.cell? ⟨w.heap.size + 1, 1, none⟩ = some (.int .i64 (m + 1)) := (cell_of_row W5 _ 1 _ _ _ hW).trans rfl
            exact bodyPost_ret (v := .tuple #[dval (i, m + 1), .int .i64 0]) (by simp [results, Try.results23, go_sem, q0, q1, dval]) rfl ⟨rfl, hB⟩
end Go.Proofs.Ytogegnikpjcpdaa
/- Contexts: one that is right is known by what it has. Joins, order. No program in sight. -/
namespace Go.Proofs.Ytogegnikpjcpdaa
set_option linter.unusedVariables false

def okC (c : Ctx) : Prop := clkIn c ∧ (∀ d ∈ c.cloud, rightB d.1 d.2 = true ∧ c.at_ d.1 + 2 ≤ d.2) ∧ c.cloud.Pairwise (fun a b => before a b = true)

theorem right_iff {d : Int × Int} : rightB d.1 d.2 = true ↔ 0 ≤ d.1 ∧ d.1 < 4 ∧ 1 ≤ d.2 ∧ d.2 ≤ 1099511627776 := by simp [rightB, and_assoc]
theorem before_iff {a b : Int × Int} : before a b = true ↔ a.1 < b.1 ∨ (a.1 = b.1 ∧ a.2 < b.2) := by simp [before]
theorem hasB_iff {c : Ctx} {d : Int × Int} : hasB c d = true ↔ (0 ≤ d.1 ∧ d.1 < 4 ∧ 1 ≤ d.2 ∧ d.2 ≤ c.at_ d.1) ∨ d ∈ c.cloud := by unfold hasB; rw [decide_eq_true_eq]; exact Iff.rfl

theorem pair_of_next {α : Type} {R : α → α → Prop} (ht : ∀ a b c, R a b → R b c → R a c) : ∀ (l : List α), (∀ i (h : i + 1 < l.length), R l[i] l[i + 1]) → l.Pairwise R
  | [], _ => .nil
  | [a], _ => by simp
  | a :: b :: r, h => by
    have ih := pair_of_next ht (b :: r) (fun i hi => h (i + 1) (by simpa using hi))
    have h0 : R a b := by simpa using h 0 (by simp)
    refine List.pairwise_cons.2 ⟨fun x hx => ?_, ih⟩
    rcases List.mem_cons.1 hx with rfl | hx
    · exact h0
    · exact ht _ _ _ h0 ((List.pairwise_cons.1 ih).1 x hx)
theorem before_trans (a b c : Int × Int) (h1 : before a b = true) (h2 : before b c = true) : before a c = true := by
  rw [before_iff] at *; omega

theorem badAt_iff (c : Ctx) (i : Nat) (hi : i < c.cloud.length) : badAt c i = false ↔ rightB (c.cloud[i]).1 (c.cloud[i]).2 = true ∧ (∀ h : 0 < i, before c.cloud[i - 1] c.cloud[i] = true) ∧ c.at_ (c.cloud[i]).1 + 2 ≤ (c.cloud[i]).2 := by
  have e : c.cloud.getD i (0, 0) = c.cloud[i] := by simp [List.getD, hi]
  have e1 : 0 < i → c.cloud.getD (i - 1) (0, 0) = c.cloud[i - 1] := fun _ => by simp [List.getD, show i - 1 < c.cloud.length by omega]
  unfold badAt
  rw [e]
  by_cases h0 : 0 < i
  · rw [e1 h0]
    simp only [h0, decide_true, Bool.true_and, Bool.or_eq_false_iff, Bool.not_eq_false', decide_eq_false_iff_not, and_assoc]
    exact ⟨fun ⟨p, q, r⟩ => ⟨p, fun _ => q, by omega⟩, fun ⟨p, q, r⟩ => ⟨p, q trivial, by omega⟩⟩
  · simp only [h0, decide_false, Bool.false_and, Bool.or_false, Bool.or_eq_false_iff, Bool.not_eq_false', decide_eq_false_iff_not]
    exact ⟨fun ⟨p, r⟩ => ⟨p, fun h => h.elim, by omega⟩, fun ⟨p, q, r⟩ => ⟨p, by omega⟩⟩

theorem checkI_iff (c : Ctx) : checkI c = 0 ↔ okC c ∧ c.cloud.length ≤ 400 := by
  constructor
  · intro h
    obtain ⟨hc, hl, hr⟩ := checkI_zero h
    have hb : ∀ i, i < c.cloud.length → badAt c i = false := by
      intro i hi
      cases hq : badAt c i with
      | false => rfl
      | true =>
        have hclk : (clkOk c.c0 && clkOk c.c1 && clkOk c.c2 && clkOk c.c3) = true := by
          cases hq2 : (clkOk c.c0 && clkOk c.c1 && clkOk c.c2 && clkOk c.c3) with
          | true => rfl
          | false => rw [checkI_arg hq2] at h; cases h
        rw [checkI_form hclk hl hi hq] at h; cases h
    refine ⟨⟨hc, fun d hd => ?_, ?_⟩, hl⟩
    · obtain ⟨i, hi, rfl⟩ := List.getElem_of_mem hd
      have := (badAt_iff c i hi).1 (hb i hi)
      exact ⟨this.1, this.2.2⟩
    · refine pair_of_next before_trans _ fun i hi => ?_
      have := ((badAt_iff c (i + 1) hi).1 (hb (i + 1) hi)).2.1 (by omega)
      simpa using this
  · rintro ⟨⟨hc, hd, hp⟩, hl⟩
    refine checkI_ok ?_ hl fun i hi => (badAt_iff c i hi).2 ⟨(hd _ (List.getElem_mem _)).1, fun h0 => ?_, (hd _ (List.getElem_mem _)).2⟩
    · obtain ⟨⟨a, b⟩, ⟨d, e⟩, ⟨f, g⟩, ⟨p, q⟩⟩ := hc
      simp [clkOk, *]
    · exact (List.pairwise_iff_getElem.1 hp) (i - 1) i (by omega) hi (by omega)

theorem okC_ext {a b : Ctx} (ha : okC a) (hb : okC b) (h : ∀ d, hasB a d = hasB b d) : a = b := by
  have le : ∀ (a b : Ctx), okC a → okC b → (∀ d, hasB a d = hasB b d) → ∀ n, 0 ≤ n → n < 4 → b.at_ n ≤ a.at_ n := by
    intro a b ha hb h n h0 h4
    refine Int.le_of_not_gt fun hlt => ?_
    have h1 := (at_in ha.1 n).1
    have h2 : hasB b (n, a.at_ n + 1) = true := hasB_iff.2 (.inl ⟨h0, h4, by simp only; omega, by simp only; omega⟩)
    rw [← h] at h2
    rcases hasB_iff.1 h2 with h3 | h3
    · simp only at h3; omega
    · have := (ha.2.1 _ h3).2; simp only at this; omega
  have hat : ∀ n, 0 ≤ n → n < 4 → a.at_ n = b.at_ n := fun n h0 h4 => Int.le_antisymm (le b a hb ha (fun d => (h d).symm) n h0 h4) (le a b ha hb h n h0 h4)
  have sub : ∀ (a b : Ctx), okC a → (∀ d, hasB a d = hasB b d) → (∀ n, 0 ≤ n → n < 4 → a.at_ n = b.at_ n) → ∀ d ∈ a.cloud, d ∈ b.cloud := by
    intro a b ha h hat d hd
    obtain ⟨h1, h2⟩ := ha.2.1 d hd
    have hr := right_iff.1 h1
    have h3 : hasB b d = true := by rw [← h]; exact hasB_iff.2 (.inr hd)
    rcases hasB_iff.1 h3 with h4 | h4
    · have := hat d.1 hr.1 hr.2.1; omega
    · exact h4
  have nd : ∀ (a : Ctx), okC a → a.cloud.Nodup := fun a ha => ha.2.2.imp fun {x y} hxy e => by subst e; rw [before_iff] at hxy; omega
  have hp : a.cloud.Perm b.cloud := (List.perm_ext_iff_of_nodup (nd a ha) (nd b hb)).2 fun d => ⟨sub a b ha h hat d, sub b a hb (fun d => (h d).symm) (fun n h0 h4 => (hat n h0 h4).symm) d⟩
  have le2 : ∀ (a : Ctx), okC a → a.cloud.Pairwise (fun a b => dotLe a b = true) := fun a ha => ha.2.2.imp fun {x y} hxy => by
    simp only [dotLe, Bool.not_eq_true']
    cases hq : before y x with
    | false => rfl
    | true => rw [before_iff] at *; omega
  have hcl := sorted_eq hp (le2 a ha) (le2 b hb)
  have e0 := hat 0 (by omega) (by omega)
  have e1 := hat 1 (by omega) (by omega)
  have e2 := hat 2 (by omega) (by omega)
  have e3 := hat 3 (by omega) (by omega)
  simp [Ctx.at_] at e0 e1 e2 e3
  cases a; cases b
  simp_all

theorem at_inc {c : Ctx} {n m : Int} (h0 : 0 ≤ n) (h4 : n < 4) (m0 : 0 ≤ m) (m4 : m < 4) : (c.inc n).at_ m = if m = n then c.at_ n + 1 else c.at_ m := by
  rcases (by omega : n = 0 ∨ n = 1 ∨ n = 2 ∨ n = 3) with h | h | h | h <;> rcases (by omega : m = 0 ∨ m = 1 ∨ m = 2 ∨ m = 3) with g | g | g | g <;> subst h <;> subst g <;> simp [Ctx.inc, Ctx.at_]

theorem refStep_inv {c : Ctx} {d : Int × Int} (hc : okC c) (hd : rightB d.1 d.2 = true) (hx : ∀ x ∈ c.cloud, before x d = true ∨ x = d) :
    okC (refStep c d) ∧ (∀ x, hasB (refStep c d) x = true ↔ hasB c x = true ∨ x = d) ∧ (∀ x ∈ (refStep c d).cloud, x ∈ c.cloud ∨ x = d) := by
  by_cases hh : hasB c d = true
  · rw [refStep_same hh]
    refine ⟨hc, fun x => ⟨.inl, fun h => ?_⟩, fun x hx => .inl hx⟩
    rcases h with h | rfl
    · exact h
    · exact hh
  · have hno : d ∉ c.cloud := fun h => hh (hasB_iff.2 (.inr h))
    have hr := right_iff.1 hd
    have hgt : c.at_ d.1 < d.2 := by
      refine Int.lt_of_not_ge fun h => hh (hasB_iff.2 (.inl ⟨hr.1, hr.2.1, hr.2.2.1, h⟩))
    have hbf : ∀ x ∈ c.cloud, before x d = true := fun x h => by
      rcases hx x h with h1 | h1
      · exact h1
      · subst h1; exact absurd h hno
    have hin := packStep_in hc.1 hd
    have e := ref_pack hd hno
    rw [e]
    by_cases hq : d.2 = c.at_ d.1 + 1
    · have e2 : packStep c d = c.inc d.1 := by unfold packStep; rw [if_neg (by omega), if_pos hq]
      rw [e2] at hin ⊢
      refine ⟨⟨hin, ?_, by rw [inc_cloud]; exact hc.2.2⟩, fun x => ?_, fun x hx => by rw [inc_cloud] at hx; exact .inl hx⟩
      · intro x hx
        rw [inc_cloud] at hx
        obtain ⟨h1, h2⟩ := hc.2.1 x hx
        have hxr := right_iff.1 h1
        refine ⟨h1, ?_⟩
        rw [at_inc hr.1 hr.2.1 hxr.1 hxr.2.1]
        have hb := before_iff.1 (hbf x hx)
        split
        · rename_i e3; rw [e3] at h2; omega
        · exact h2
      · rw [hasB_iff, hasB_iff, inc_cloud]
        constructor
        · rintro (⟨h1, h2, h3, h4⟩ | h)
          · rw [at_inc hr.1 hr.2.1 h1 h2] at h4
            split at h4
            · rename_i e3
              by_cases e4 : x.2 = d.2
              · right; ext <;> omega
              · left; left; exact ⟨h1, h2, h3, by rw [e3]; omega⟩
            · left; left; exact ⟨h1, h2, h3, h4⟩
          · exact .inl (.inr h)
        · rintro ((⟨h1, h2, h3, h4⟩ | h) | rfl)
          · left
            refine ⟨h1, h2, h3, ?_⟩
            rw [at_inc hr.1 hr.2.1 h1 h2]
            split
            · rename_i e3; rw [e3] at h4; omega
            · exact h4
          · exact .inr h
          · left
            refine ⟨hr.1, hr.2.1, hr.2.2.1, ?_⟩
            rw [at_inc hr.1 hr.2.1 hr.1 hr.2.1, if_pos rfl]; omega
    · have e2 : packStep c d = { c with cloud := c.cloud ++ [d] } := by unfold packStep; rw [if_neg (by omega), if_neg hq]
      rw [e2] at hin ⊢
      refine ⟨⟨hin, ?_, ?_⟩, fun x => ?_, fun x hx => by simpa using hx⟩
      · intro x hx
        simp only [List.mem_append, List.mem_singleton] at hx
        rcases hx with hx | rfl
        · exact hc.2.1 x hx
        · exact ⟨hd, by show c.at_ x.1 + 2 ≤ x.2; omega⟩
      · refine List.pairwise_append.2 ⟨hc.2.2, by simp, fun x hx y hy => ?_⟩
        simp only [List.mem_singleton] at hy
        rw [hy]
        exact hbf x hx
      · rw [hasB_iff, hasB_iff]
        simp only [List.mem_append, List.mem_singleton]
        have e3 : ∀ n, Ctx.at_ { c with cloud := c.cloud ++ [d] } n = c.at_ n := fun n => rfl
        simp only [e3, or_assoc]

theorem ref_inv : ∀ (s : List (Int × Int)) (c : Ctx), okC c → s.Pairwise (fun a b => dotLe a b = true) → (∀ d ∈ s, rightB d.1 d.2 = true) → (∀ x ∈ c.cloud, ∀ d ∈ s, before x d = true ∨ x = d) →
    okC (s.foldl refStep c) ∧ ∀ x, hasB (s.foldl refStep c) x = true ↔ hasB c x = true ∨ x ∈ s
  | [], c, hc, _, _, _ => ⟨hc, fun x => by simp⟩
  | d :: s, c, hc, hs, hr, hx => by
    obtain ⟨h1, h2, h3⟩ := refStep_inv hc (hr d (by simp)) (fun x h => hx x h d (by simp))
    have hs' := List.pairwise_cons.1 hs
    obtain ⟨h4, h5⟩ := ref_inv s (refStep c d) h1 hs'.2 (fun y hy => hr y (by simp [hy])) (fun x hx1 y hy => by
      rcases h3 x hx1 with h | rfl
      · exact hx x h y (by simp [hy])
      · have h6 := hs'.1 y hy
        simp only [dotLe, Bool.not_eq_true'] at h6
        by_cases h7 : before x y = true
        · exact .inl h7
        · exact .inr (before_total x y (by simpa using h7) h6))
    refine ⟨h4, fun x => ?_⟩
    rw [List.foldl_cons, h5, h2]
    simp only [List.mem_cons, or_assoc]

theorem pack_ok {c0 c1 c2 c3 : Int} {l : List (Int × Int)} (hc : clkIn ⟨c0, c1, c2, c3, []⟩) (hr : ∀ d ∈ l, rightB d.1 d.2 = true) :
    okC (packL c0 c1 c2 c3 l) ∧ ∀ d, hasB (packL c0 c1 c2 c3 l) d = true ↔ hasB ⟨c0, c1, c2, c3, []⟩ d = true ∨ d ∈ l := by
  rw [← ref_packL c0 c1 c2 c3 l hr]
  obtain ⟨h1, h2⟩ := ref_inv (l.mergeSort dotLe) ⟨c0, c1, c2, c3, []⟩ ⟨hc, by simp, by simp⟩ (sorted_sort l) (fun d hd => hr d (List.mem_mergeSort.1 hd)) (by simp)
  exact ⟨h1, fun d => by rw [h2, List.mem_mergeSort]⟩

theorem pack_length {c0 c1 c2 c3 : Int} {l : List (Int × Int)} : (packL c0 c1 c2 c3 l).cloud.length ≤ l.length := by
  have h : ∀ (s : List (Int × Int)) (c : Ctx), (s.foldl packStep c).cloud.length ≤ c.cloud.length + s.length := by
    intro s
    induction s with
    | nil => simp
    | cons d s ih =>
      intro c
      rw [List.foldl_cons]
      refine Nat.le_trans (ih _) ?_
      have : (packStep c d).cloud.length ≤ c.cloud.length + 1 := by
        unfold packStep
        split
        · omega
        · split
          · rw [inc_cloud]; omega
          · simp
      simp; omega
  have h1 := h (cpt (l.mergeSort dotLe)) ⟨c0, c1, c2, c3, []⟩
  have h2 := cpt_length (l.mergeSort dotLe)
  rw [List.length_mergeSort] at h2
  unfold packL
  simp at h1
  omega

def joinC (a b : Ctx) : Ctx := packL (max a.c0 b.c0) (max a.c1 b.c1) (max a.c2 b.c2) (max a.c3 b.c3) (a.cloud ++ b.cloud)
theorem join_ok {a b : Ctx} (ha : okC a) (hb : okC b) : okC (joinC a b) ∧ ∀ d, hasB (joinC a b) d = true ↔ hasB a d = true ∨ hasB b d = true := by
  have hclk : clkIn ⟨max a.c0 b.c0, max a.c1 b.c1, max a.c2 b.c2, max a.c3 b.c3, []⟩ := by
    have h1 := ha.1
    have h2 := hb.1
    unfold clkIn at *
    simp only
    omega
  obtain ⟨h1, h2⟩ := pack_ok (l := a.cloud ++ b.cloud) hclk (fun d hd => by
    rcases List.mem_append.1 hd with h | h
    · exact (ha.2.1 d h).1
    · exact (hb.2.1 d h).1)
  refine ⟨h1, fun d => ?_⟩
  rw [joinC, h2, hasB_iff, hasB_iff, hasB_iff, List.mem_append]
  have e : ∀ n, 0 ≤ n → n < 4 → Ctx.at_ ⟨max a.c0 b.c0, max a.c1 b.c1, max a.c2 b.c2, max a.c3 b.c3, []⟩ n = max (a.at_ n) (b.at_ n) := by
    intro n h0 h4
    rcases (by omega : n = 0 ∨ n = 1 ∨ n = 2 ∨ n = 3) with h | h | h | h <;> subst h <;> simp [Ctx.at_]
  constructor
  · rintro ((⟨h1, h2, h3, h4⟩ | h) | h | h)
    · rw [e _ h1 h2] at h4
      by_cases h5 : d.2 ≤ a.at_ d.1
      · exact .inl (.inl ⟨h1, h2, h3, h5⟩)
      · exact .inr (.inl ⟨h1, h2, h3, by omega⟩)
    · simp at h
    · exact .inl (.inr h)
    · exact .inr (.inr h)
  · rintro ((⟨h1, h2, h3, h4⟩ | h) | (⟨h1, h2, h3, h4⟩ | h))
    · exact .inl (.inl ⟨h1, h2, h3, by rw [e _ h1 h2]; omega⟩)
    · exact .inr (.inl h)
    · exact .inl (.inl ⟨h1, h2, h3, by rw [e _ h1 h2]; omega⟩)
    · exact .inr (.inr h)

def lessB (a b : Ctx) : Bool := (decide (a.c0 ≤ b.c0) && decide (a.c1 ≤ b.c1) && decide (a.c2 ≤ b.c2) && decide (a.c3 ≤ b.c3)) && a.cloud.all (fun d => hasB b d)
theorem less_iff {a b : Ctx} (ha : okC a) (hb : okC b) : lessB a b = true ↔ ∀ d, hasB a d = true → hasB b d = true := by
  unfold lessB
  simp only [Bool.and_eq_true, decide_eq_true_eq, List.all_eq_true]
  constructor
  · rintro ⟨⟨⟨⟨h0, h1⟩, h2⟩, h3⟩, hc⟩ d hd
    rcases hasB_iff.1 hd with ⟨p0, p4, p1, p2⟩ | h
    · refine hasB_iff.2 (.inl ⟨p0, p4, p1, Int.le_trans p2 ?_⟩)
      generalize d.1 = n at *
      rcases (by omega : n = 0 ∨ n = 1 ∨ n = 2 ∨ n = 3) with h | h | h | h <;> subst h <;> simp [Ctx.at_] <;> assumption
    · exact hc d h
  · intro h
    have hat : ∀ n, 0 ≤ n → n < 4 → a.at_ n ≤ b.at_ n := by
      intro n h0 h4
      refine Int.le_of_not_gt fun hlt => ?_
      have h1 := (at_in hb.1 n).1
      have h2 : hasB a (n, b.at_ n + 1) = true := hasB_iff.2 (.inl ⟨h0, h4, by simp only; omega, by simp only; omega⟩)
      rcases hasB_iff.1 (h _ h2) with h3 | h3
      · simp only at h3; omega
      · have := (hb.2.1 _ h3).2; simp only at this; omega
    have e0 := hat 0 (by omega) (by omega)
    have e1 := hat 1 (by omega) (by omega)
    have e2 := hat 2 (by omega) (by omega)
    have e3 := hat 3 (by omega) (by omega)
    simp [Ctx.at_] at e0 e1 e2 e3
    exact ⟨⟨⟨⟨e0, e1⟩, e2⟩, e3⟩, fun d hd => h d (hasB_iff.2 (.inr hd))⟩
end Go.Proofs.Ytogegnikpjcpdaa
/- dot.Less and its predicate. -/
namespace Go.Proofs.Ytogegnikpjcpdaa
set_option linter.unusedVariables false
open Go.ChangeShapes Go.WideShapes Go.ChangeAt Go.RowKit

abbrev cbox (c : Ctx) (A : Option Addr) (k : Nat) : Array Value := #[.int .i64 c.c0, .int .i64 c.c1, .int .i64 c.c2, .int .i64 c.c3, .slice A c.cloud.length k]

theorem lessF_any (b : Ctx) (B : Option Addr) (m X : Nat) (d : Int × Int) (w : World) (hX : Blk w X (cbox b B m) 25) (rb : Row w w.heap.size B (dcells b.cloud)) (lb : b.cloud.length ≤ 9223372036854775807) :
    Calls Try.prog 70 #[dval d, .pointer (some ⟨X, 0, none⟩)] w fun e w' => e = .returned (.bool (!hasB b d)) ∧ Below w.heap.size w w' := by
  have HH := hid (fun w1 (hb : Below w.heap.size w w1) => has_any b d B m w1 (rb.step hb) lb)
  have hlt := hX.lt
  obtain ⟨c1, f1⟩ := hX.cells
  clear hX rb f1
  obtain ⟨d0, d1⟩ := d
  obtain ⟨b0, b1, b2, b3, bl⟩ := b
  simp only [cval, dval, cbox] at *
  generalize hasB ⟨b0, b1, b2, b3, bl⟩ (d0, d1) = I at *
  go_enter Try.func70, Try.ntmps70
  go_wp2_with fail
  refine (HH.out _ (by (repeat' (first | (with_reducible exact Below.refl _ _) | (with_reducible assumption) | (with_reducible refine below_drewN ?_ _) | (with_reducible refine Below.drew ?_) | (with_reducible refine Below.alloc ?_ ?_ _) | (with_reducible refine Below.setCell ?_ ?_ _) | (refine Below.trans ?_ (Below.mono (by assumption) ?_)) | go_size)))).mono ?_
  rintro e w1 ⟨rfl, hb1⟩
  go_wp2
  go_ret
  exact ⟨rfl, (by refine Below.step' ?_ hb1; (repeat' (first | (with_reducible exact Below.refl _ _) | (with_reducible assumption) | (with_reducible refine below_drewN ?_ _) | (with_reducible refine Below.drew ?_) | (with_reducible refine Below.alloc ?_ ?_ _) | (with_reducible refine Below.setCell ?_ ?_ _) | (refine Below.trans ?_ (Below.mono (by assumption) ?_)) | go_size)))⟩

theorem enters_lessF : ∀ args w, (callFunc 70 args).run Try.prog w = .ok (.enter 70 args) w := enters_of Try.func70 (by kernel_rfl) rfl

def lessX (a b : Ctx) : Bool := if twoI a b ≠ 0 then false else lessB a b

theorem not_any (l : List (Int × Int)) (f : Int × Int → Bool) : (!l.any (fun d => !f d)) = l.all f := by
  induction l with
  | nil => rfl
  | cons x l ih => simp only [List.any_cons, List.all_cons, ← ih]; cases f x <;> simp

theorem lessB_no {a b : Ctx} (h : b.c0 < a.c0 ∨ b.c1 < a.c1 ∨ b.c2 < a.c2 ∨ b.c3 < a.c3) : lessB a b = false := by
  unfold lessB
  rw [Bool.eq_false_iff]
  intro h2
  simp only [Bool.and_eq_true, decide_eq_true_eq] at h2
  omega
theorem lessB_yes {a b : Ctx} (h0 : a.c0 ≤ b.c0) (h1 : a.c1 ≤ b.c1) (h2 : a.c2 ≤ b.c2) (h3 : a.c3 ≤ b.c3) : lessB a b = a.cloud.all (fun d => hasB b d) := by
  unfold lessB
  simp [h0, h1, h2, h3]
theorem ret_bi {a b : Bool} {x : Int} (h : a = b) : Ending.returned (.tuple #[.bool a, .int .i64 x]) = .returned (.tuple #[.bool b, .int .i64 x]) := by rw [h]

set_option maxHeartbeats 1000000 in
set_option maxRecDepth 100000 in
theorem less_any (a b : Ctx) (A B : Option Addr) (k m : Nat) (w : World) (ra : Row w w.heap.size A (dcells a.cloud)) (la : a.cloud.length ≤ 9223372036854775807)
    (rb : Row w w.heap.size B (dcells b.cloud)) (lb : b.cloud.length ≤ 9223372036854775807) :
    Calls Try.prog 32 #[cval a A k, cval b B m] w fun e w' => e = .returned (.tuple #[.bool (lessX a b), .int .i64 (twoI a b)]) ∧ Below w.heap.size w w' := by
  have HBO := hid (fun w1 (hb : Below w.heap.size w w1) => both_any a b A B k m w1 (ra.step hb) la (rb.step hb) lb)
  have HCF := hid (fun w1 X (hb : Below w.heap.size w w1) (hX : Blk w1 X (cbox b B m) 25) => containsFunc_any 70 #[.pointer (some ⟨X, 0, none⟩)] (fun d => !hasB b d) a.cloud A k w1 (ra.step hb) la enters_lessF
    (fun w2 hb2 d _ => lessF_any b B m X d w2 (hX.step hb2) ((rb.step hb).step hb2) lb))
  by_cases q : twoI a b = 0
  rotate_left
  · have hX : lessX a b = false := by unfold lessX; rw [if_pos q]
    rw [hX]
    have q2 : (twoI a b == 0) = false := by simpa using q
    generalize twoI a b = I at *
    clear hX
    obtain ⟨a0, a1, a2, a3, al⟩ := a
    obtain ⟨b0, b1, b2, b3, bl⟩ := b
    simp only [cval] at *
    clear ra rb HCF
    go_enter Try.func32, Try.ntmps32
    go_wp2_with fail
    refine (HBO.out _ (by (repeat' (first | (with_reducible exact Below.refl _ _) | (with_reducible assumption) | (with_reducible refine below_drewN ?_ _) | (with_reducible refine Below.drew ?_) | (with_reducible refine Below.alloc ?_ ?_ _) | (with_reducible refine Below.setCell ?_ ?_ _) | (refine Below.trans ?_ (Below.mono (by assumption) ?_)) | go_size)))).mono ?_
    rintro e w1 ⟨rfl, hb1⟩
    go_wp2
    go_ret2
    exact ⟨rfl, (by refine Below.step' ?_ hb1; (repeat' (first | (with_reducible exact Below.refl _ _) | (with_reducible assumption) | (with_reducible refine below_drewN ?_ _) | (with_reducible refine Below.drew ?_) | (with_reducible refine Below.alloc ?_ ?_ _) | (with_reducible refine Below.setCell ?_ ?_ _) | (refine Below.trans ?_ (Below.mono (by assumption) ?_)) | go_size)))⟩
  · have hX : lessX a b = lessB a b := by unfold lessX; rw [if_neg (by simp [q])]
    rw [hX]
    rw [q] at HBO ⊢
    obtain ⟨L, hL⟩ : ∃ L, L = lessB a b := ⟨_, rfl⟩
    rw [← hL]
    have HL := hid hL
    clear hL
    clear hX q ra rb
    obtain ⟨a0, a1, a2, a3, al⟩ := a
    obtain ⟨b0, b1, b2, b3, bl⟩ := b
    simp only [cval, cbox] at *
    have i0 := clk0 a0 a1 a2 a3
    have i1 := clk1 a0 a1 a2 a3
    have i2 := clk2 a0 a1 a2 a3
    have i3 := clk3 a0 a1 a2 a3
    go_enter Try.func32, Try.ntmps32
    go_wp2_with fail
    refine (HBO.out _ (by (repeat' (first | (with_reducible exact Below.refl _ _) | (with_reducible assumption) | (with_reducible refine below_drewN ?_ _) | (with_reducible refine Below.drew ?_) | (with_reducible refine Below.alloc ?_ ?_ _) | (with_reducible refine Below.setCell ?_ ?_ _) | (refine Below.trans ?_ (Below.mono (by assumption) ?_)) | go_size)))).mono ?_
    rintro e w1 ⟨rfl, hb1⟩
    have hB1 : Below w.heap.size w w1 := (by refine Below.step' ?_ hb1; (repeat' (first | (with_reducible exact Below.refl _ _) | (with_reducible assumption) | (with_reducible refine below_drewN ?_ _) | (with_reducible refine Below.drew ?_) | (with_reducible refine Below.alloc ?_ ?_ _) | (with_reducible refine Below.setCell ?_ ?_ _) | (refine Below.trans ?_ (Below.mono (by assumption) ?_)) | go_size)))
    have hX1 : Blk w1 (w.heap.size + 1) #[.int .i64 b0, .int .i64 b1, .int .i64 b2, .int .i64 b3, .slice B bl.length m] 25 := Blk.thru (by exact Blk.new' (w.alloc _) _ _ (by simp)) hb1 (by simp)
    have c1 := (anchor hb1).1
    simp only [World.size_alloc] at c1
    have HB1 := hid hB1
    have HX1 := hid hX1
    clear hb1 hB1 hX1
    go_wp2
    refine wp_loop_rounds 5 ?_
    repeat any_goals (rw [rounds_succ]; go_wp2_with fail)
    all_goals first
      | (go_ret2; refine ⟨ret_bi (HL.out.trans (lessB_no (by simp only; omega))).symm, HB1.out⟩)
      | skip
    refine (HCF.out _ _ HB1.out HX1.out).mono ?_
    rintro e w2 ⟨rfl, hb2⟩
    go_wp2
    go_ret2
    exact ⟨ret_bi ((not_any _ _).trans (HL.out.trans (lessB_yes (by simp only; omega) (by simp only; omega) (by simp only; omega) (by simp only; omega))).symm), Below.step' HB1.out hb2⟩
end Go.Proofs.Ytogegnikpjcpdaa
/- Rows of things of more than one cell: contexts in a list, cells of a table. No program in sight. -/
namespace Go.Proofs.Ytogegnikpjcpdaa
set_option linter.unusedVariables false
open Go.RowKit

theorem flat_len {α β : Type} {f : α → List β} {n : Nat} (hf : ∀ x, (f x).length = n) : ∀ (L : List α), (L.flatMap f).length = L.length * n
  | [] => by simp
  | x :: L => by rw [List.flatMap_cons, List.length_append, hf, flat_len hf L, List.length_cons, Nat.succ_mul, Nat.add_comm]
theorem flat_get {α β : Type} {f : α → List β} {n : Nat} (hf : ∀ x, (f x).length = n) : ∀ (L : List α) (k : Nat) (h : k < L.length) (j : Nat), j < n → (L.flatMap f)[k * n + j]? = (f L[k])[j]?
  | x :: L, 0, _, j, hj => by
    rw [List.flatMap_cons, Nat.zero_mul, Nat.zero_add, List.getElem?_append_left (by rw [hf]; exact hj)]; rfl
  | x :: L, k + 1, h, j, hj => by
    rw [List.flatMap_cons, List.getElem?_append_right (by rw [hf, Nat.succ_mul]; omega), hf, show (k + 1) * n + j - n = k * n + j by rw [Nat.succ_mul]; omega]
    exact flat_get hf L k (by simpa using h) j hj
theorem flat_take {α β : Type} {f : α → List β} {n : Nat} (hf : ∀ x, (f x).length = n) : ∀ (L : List α) (k : Nat), (L.flatMap f).take (k * n) = (L.take k).flatMap f
  | [], k => by simp
  | x :: L, 0 => by simp
  | x :: L, k + 1 => by
    rw [List.flatMap_cons, List.take_succ_cons, List.flatMap_cons, Nat.succ_mul, Nat.add_comm, ← flat_take hf L k]
    rw [List.take_append, hf, List.take_of_length_le (by rw [hf]; omega), Nat.add_sub_cancel_left]

/-- What lies at the k-th thing of a row. -/
theorem Row.flat {α : Type} {f : α → List Value} {n : Nat} (hf : ∀ x, (f x).length = n) {w : World} {B : Nat} {A : Option Addr} {L : List α} (h : Row w B A (L.flatMap f)) (hn : 0 < n) {k : Nat} (hk : k < L.length) :
    ∃ b off, A = some ⟨b, off, none⟩ ∧ b < B ∧ ∀ j u, (f L[k])[j]? = some u → w.cell? ⟨b, off + k * n + j, none⟩ = some u := by
  have hlen : 0 < (L.flatMap f).length := by rw [flat_len hf]; exact Nat.mul_pos (by omega) hn
  obtain ⟨b, off, h1, h2, h3⟩ := h.at_ hlen
  refine ⟨b, off, h1, h2, fun j u hu => ?_⟩
  have hj : j < n := by
    rcases Nat.lt_or_ge j n with h | h
    · exact h
    · rw [List.getElem?_eq_none (by rw [hf]; exact h)] at hu; cases hu
  have := h3 (k * n + j) u (by rw [flat_get hf L k hk j hj]; exact hu)
  rw [← Nat.add_assoc] at this
  exact this

/-- A row from its cells, one thing at a time. -/
theorem Row.of_each {α : Type} {f : α → List Value} {s : Nat} (hf : ∀ x, (f x).length = s) {w : World} {b off n : Nat} (hb : b < w.heap.size) {Q : α → Prop}
    (h : ∀ i, i < n → ∃ x : α, Q x ∧ ∀ j u, (f x)[j]? = some u → w.cell? ⟨b, off + (i * s + j), none⟩ = some u) :
    ∃ l : List α, l.length = n ∧ (∀ x ∈ l, Q x) ∧ Row w w.heap.size (some ⟨b, off, none⟩) (l.flatMap f) := by
  have h' : ∀ m, m ≤ n → ∃ l : List α, l.length = m ∧ (∀ x ∈ l, Q x) ∧ ∀ j u, (l.flatMap f)[j]? = some u → w.cell? ⟨b, off + j, none⟩ = some u := by
    intro m
    induction m with
    | zero => exact fun _ => ⟨[], rfl, by simp, fun j u hu => by simp at hu⟩
    | succ m ih =>
      intro hm
      obtain ⟨l, hl, hq, hc⟩ := ih (by omega)
      obtain ⟨x, hqx, hx⟩ := h m (by omega)
      refine ⟨l ++ [x], by simp [hl], fun y hy => ?_, fun j u hu => ?_⟩
      · rcases List.mem_append.1 hy with h1 | h1
        · exact hq y h1
        · simp only [List.mem_singleton] at h1; rw [h1]; exact hqx
      · have e : (l ++ [x]).flatMap f = l.flatMap f ++ f x := by simp
        rw [e] at hu
        have hlen := flat_len hf l
        by_cases hj : j < (l.flatMap f).length
        · rw [List.getElem?_append_left hj] at hu
          exact hc j u hu
        · rw [List.getElem?_append_right (by omega)] at hu
          have := hx _ u hu
          rw [hlen, hl, show m * s + (j - m * s) = j by rw [hlen, hl] at hj; omega] at this
          exact this
  obtain ⟨l, hl, hq, hc⟩ := h' n (Nat.le_refl _)
  exact ⟨l, hl, hq, .inr ⟨b, off, rfl, hb, hc⟩⟩

/-- A context, and where its cloud lies. -/
structure CR where
  c : Ctx
  A : Option Addr
  k : Nat
abbrev CR.cells (x : CR) : List Value := [.int .i64 x.c.c0, .int .i64 x.c.c1, .int .i64 x.c.c2, .int .i64 x.c.c3, .slice x.A x.c.cloud.length x.k]
abbrev ccells (L : List CR) : List Value := L.flatMap CR.cells
theorem CR.len (x : CR) : x.cells.length = 5 := rfl
/-- A list of contexts lies at A, their clouds too. -/
def RowC (w : World) (B : Nat) (A : Option Addr) (L : List CR) : Prop := Row w B A (ccells L) ∧ ∀ x ∈ L, Row w B x.A (dcells x.c.cloud) ∧ x.c.cloud.length ≤ 9223372036854775807
theorem RowC.below {w w' : World} {B C : Nat} {A : Option Addr} {L : List CR} (h : RowC w B A L) (hb : Below C w w') (hB : B ≤ C) : RowC w' B A L :=
  ⟨h.1.below hb hB, fun x hx => ⟨(h.2 x hx).1.below hb hB, (h.2 x hx).2⟩⟩
theorem RowC.more {w : World} {B C : Nat} {A : Option Addr} {L : List CR} (h : RowC w B A L) (hB : B ≤ C) : RowC w C A L := ⟨h.1.more hB, fun x hx => ⟨(h.2 x hx).1.more hB, (h.2 x hx).2⟩⟩
theorem RowC.step {w w' : World} {A : Option Addr} {L : List CR} (h : RowC w w.heap.size A L) (hb : Below w.heap.size w w') : RowC w' w'.heap.size A L := (h.below hb (Nat.le_refl _)).more hb.size
theorem RowC.at_ {w : World} {B : Nat} {A : Option Addr} {L : List CR} (h : RowC w B A L) {k : Nat} (hk : k < L.length) :
    ∃ b off, A = some ⟨b, off, none⟩ ∧ b < B ∧ w.cell? ⟨b, off + k * 5, none⟩ = some (.int .i64 L[k].c.c0) ∧ w.cell? ⟨b, off + k * 5 + 1, none⟩ = some (.int .i64 L[k].c.c1) ∧ w.cell? ⟨b, off + k * 5 + 2, none⟩ = some (.int .i64 L[k].c.c2) ∧
      w.cell? ⟨b, off + k * 5 + 3, none⟩ = some (.int .i64 L[k].c.c3) ∧ w.cell? ⟨b, off + k * 5 + 4, none⟩ = some (.slice L[k].A L[k].c.cloud.length L[k].k) ∧ Row w B L[k].A (dcells L[k].c.cloud) ∧ L[k].c.cloud.length ≤ 9223372036854775807 := by
  obtain ⟨b, off, h1, h2, h3⟩ := Row.flat CR.len h.1 (by omega) hk
  exact ⟨b, off, h1, h2, h3 0 _ rfl, h3 1 _ rfl, h3 2 _ rfl, h3 3 _ rfl, h3 4 _ rfl, (h.2 _ (List.getElem_mem _)).1, (h.2 _ (List.getElem_mem _)).2⟩
theorem RowC.clk {w : World} {B b off : Nat} {L : List CR} (h : RowC w B (some ⟨b, off, none⟩) L) {k : Nat} (hk : k < L.length) {n : Nat} (hn : n < 4) : w.cell? ⟨b, off + k * 5 + n, none⟩ = some (.int .i64 (L[k].c.at_ n)) ∧ b < B := by
  obtain ⟨b', off', hA, hb, c0, c1, c2, c3, c4, -, -⟩ := h.at_ hk
  injection hA with hA
  injection hA with h1 h2
  subst h1 h2
  refine ⟨?_, hb⟩
  rcases (by omega : n = 0 ∨ n = 1 ∨ n = 2 ∨ n = 3) with e | e | e | e <;> subst e
  · exact c0
  · exact c1
  · exact c2
  · exact c3
theorem RowC.five {w : World} {B b off : Nat} {L : List CR} (h : RowC w B (some ⟨b, off, none⟩) L) {k : Nat} (hk : k < L.length) :
    b < B ∧ w.cell? ⟨b, off + k * 5, none⟩ = some (.int .i64 L[k].c.c0) ∧ w.cell? ⟨b, off + k * 5 + 1, none⟩ = some (.int .i64 L[k].c.c1) ∧ w.cell? ⟨b, off + k * 5 + 2, none⟩ = some (.int .i64 L[k].c.c2) ∧
      w.cell? ⟨b, off + k * 5 + 3, none⟩ = some (.int .i64 L[k].c.c3) ∧ w.cell? ⟨b, off + k * 5 + 4, none⟩ = some (.slice L[k].A L[k].c.cloud.length L[k].k) := by
  obtain ⟨b', off', hA, hb, c0, c1, c2, c3, c4, -, -⟩ := h.at_ hk
  injection hA with hA
  injection hA with h1 h2
  subst h1 h2
  exact ⟨hb, c0, c1, c2, c3, c4⟩
abbrev CR.ctxs (L : List CR) : List Ctx := L.map CR.c

/-- A cell of a table. -/
structure Cel where
  d : Int × Int
  key : Int
  col : Int
  val : Int
instance : DecidableEq Cel := fun a b => decidable_of_iff (a.d = b.d ∧ a.key = b.key ∧ a.col = b.col ∧ a.val = b.val) (by cases a; cases b; simp)
abbrev Cel.cells (x : Cel) : List Value := [.int .i64 x.d.1, .int .i64 x.d.2, .int .i64 x.key, .int .i64 x.col, .int .i64 x.val]
abbrev tcells (l : List Cel) : List Value := l.flatMap Cel.cells
theorem Cel.len (x : Cel) : x.cells.length = 5 := rfl
theorem tcells_len (l : List Cel) : (tcells l).length = l.length * 5 := flat_len Cel.len l
theorem tcells_one (l : List Cel) : ∀ u ∈ tcells l, u.oneCell' = true := by
  intro u hu
  obtain ⟨x, -, hx⟩ := List.mem_flatMap.1 hu
  simp only [Cel.cells, List.mem_cons, List.not_mem_nil, or_false] at hx
  rcases hx with rfl | rfl | rfl | rfl | rfl <;> rfl
theorem Row.cel {w : World} {B : Nat} {A : Option Addr} {l : List Cel} (h : Row w B A (tcells l)) {k : Nat} (hk : k < l.length) :
    ∃ b off, A = some ⟨b, off, none⟩ ∧ b < B ∧ w.cell? ⟨b, off + k * 5, none⟩ = some (.int .i64 l[k].d.1) ∧ w.cell? ⟨b, off + k * 5 + 1, none⟩ = some (.int .i64 l[k].d.2) ∧ w.cell? ⟨b, off + k * 5 + 2, none⟩ = some (.int .i64 l[k].key) ∧
      w.cell? ⟨b, off + k * 5 + 3, none⟩ = some (.int .i64 l[k].col) ∧ w.cell? ⟨b, off + k * 5 + 4, none⟩ = some (.int .i64 l[k].val) := by
  obtain ⟨b, off, h1, h2, h3⟩ := Row.flat Cel.len h (by omega) hk
  exact ⟨b, off, h1, h2, h3 0 _ rfl, h3 1 _ rfl, h3 2 _ rfl, h3 3 _ rfl, h3 4 _ rfl⟩

structure Tab where
  c : Ctx
  cells : List Cel
/-- A table's value. -/
abbrev tval (t : Tab) (A : Option Addr) (k : Nat) (B : Option Addr) (m : Nat) : Value :=
  .agg #[.int .i64 t.c.c0, .int .i64 t.c.c1, .int .i64 t.c.c2, .int .i64 t.c.c3, .slice A t.c.cloud.length k, .slice B t.cells.length m]
abbrev tbox (t : Tab) (A : Option Addr) (k : Nat) (B : Option Addr) (m : Nat) : Array Value :=
  #[.int .i64 t.c.c0, .int .i64 t.c.c1, .int .i64 t.c.c2, .int .i64 t.c.c3, .slice A t.c.cloud.length k, .slice B t.cells.length m]
end Go.Proofs.Ytogegnikpjcpdaa
