/- viewref.Next, dot.Next. -/
import Derived.Test.YtogegnikpjcpdaaDotS
namespace Go.Proofs.Ytogegnikpjcpdaa
set_option linter.unusedVariables false
open Go.ChangeShapes Go.WideShapes Go.ChangeAt Go.RowKit

def stepS (i m : Int) (d : Int × Int) : Int := if d.1 = i ∧ m < d.2 then d.2 else m
def maxS (c : Ctx) (i : Int) : Int := c.cloud.foldl (stepS i) (c.at_ i)
def rnextD (c : Ctx) (i : Int) : Int × Int := if 1099511627776 ≤ maxS c i then (0, 0) else (i, maxS c i + 1)
def rnextE (c : Ctx) (i : Int) : Int := if 1099511627776 ≤ maxS c i then 2 else 0
def nextD (c : Ctx) (i : Int) : Int × Int := if checkI c ≠ 0 then (0, 0) else if inB i 0 3 = false then (0, 0) else rnextD c i
def nextE (c : Ctx) (i : Int) : Int := if checkI c ≠ 0 then checkI c else if inB i 0 3 = false then 1 else rnextE c i

/-- A dot and an error. -/
def DotErr (d : Int × Int) (x : Int) (w : World) (e : Ending) (w' : World) : Prop :=
  e = .returned (.tuple #[dval d, .int .i64 x]) ∧ Below w.heap.size w w'

theorem stepS_le (i m : Int) (d : Int × Int) : m ≤ stepS i m d := by unfold stepS; split <;> omega
theorem take_step {α β : Type} (f : β → α → β) (b : β) (l : List α) (k : Nat) (h : k < l.length) : (l.take (k + 1)).foldl f b = f ((l.take k).foldl f b) l[k] := by
  rw [List.take_succ_eq_append_getElem h, List.foldl_append]; rfl

theorem checkI_zero {c : Ctx} (h : checkI c = 0) : clkIn c ∧ c.cloud.length ≤ 400 ∧ ∀ d ∈ c.cloud, rightB d.1 d.2 = true := by
  unfold checkI at h
  split at h
  · cases h
  · rename_i h1
    split at h
    · cases h
    · rename_i h2
      split at h
      · cases h
      · rename_i h3
        simp [clkOk] at h1
        refine ⟨by simp [clkIn]; omega, by omega, fun d hd => ?_⟩
        obtain ⟨j, hj, rfl⟩ := List.getElem_of_mem hd
        have h4 : badAt c j = false := by
          cases hb : badAt c j
          · rfl
          · exact absurd (List.any_eq_true.2 ⟨j, List.mem_range.2 hj, hb⟩) h3
        have hg : c.cloud.getD j (0, 0) = c.cloud[j] := by simp [List.getD, hj]
        unfold badAt at h4
        simp only [hg] at h4
        cases hr : rightB (c.cloud[j]).1 (c.cloud[j]).2
        · rw [hr] at h4; simp at h4
        · rfl

set_option maxHeartbeats 1000000 in
set_option maxRecDepth 100000 in
theorem Rnext_any (c : Ctx) (i : Int) (A : Option Addr) (k0 : Nat) (w : World) (hr : Row w w.heap.size A (dcells c.cloud)) (hl : c.cloud.length ≤ 9223372036854775807) (hc : clkIn c) (hi0 : 0 ≤ i) (hi4 : i < 4) :
    Calls Try.prog 22 #[cval c A k0, .int .i64 i] w (DotErr (rnextD c i) (rnextE c i) w) := by
  obtain ⟨hat0, hat1⟩ := at_in hc i
  have hM : maxS c i = c.cloud.foldl (stepS i) (c.at_ i) := rfl
  have hD : rnextD c i = if 1099511627776 ≤ maxS c i then (0, 0) else (i, maxS c i + 1) := rfl
  have hE : rnextE c i = if 1099511627776 ≤ maxS c i then 2 else 0 := rfl
  have hat := at_cell c i hi0 hi4
  generalize rnextD c i = D at *
  generalize rnextE c i = X at *
  generalize maxS c i = M at *
  generalize hm0 : c.at_ i = m0 at *
  clear hm0
  obtain ⟨c0, c1, c2, c3, l⟩ := c
  have HR := hid hr
  have HM := hid hM
  have HD := hid hD
  have HE := hid hE
  have HAT := hid hat
  clear hr hM hD hE hc hat
  have ha := HAT.out (.slice A l.length k0)
  simp only [cval] at *
  go_enter Try.func22, Try.ntmps22
  go_wp2
  clear ha
  go_loopw [6, 7] (fun s6 s7 wr => ∃ (k : Nat) (m : Int), k ≤ l.length ∧ s7 = .int .i64 k ∧ s6 = .int .i64 m ∧ m = (l.take k).foldl (stepS i) m0 ∧ 0 ≤ m ∧ Below (w.heap.size + 1 + 1) ((w.alloc (.cells #[.int .i64 c0, .int .i64 c1, .int .i64 c2, .int .i64 c3, .slice A l.length k0] 25)).alloc (.cells #[.int .i64 0, .int .i64 0] 27)) wr) (fun _ s7 _ => l.length - (intOf s7).toNat)
  case atStart => exact ⟨0, m0, by omega, rfl, rfl, rfl, hat0, Below.refl _ _⟩
  case round =>
    obtain ⟨k, m, hk, rfl, rfl, hm, hm0, hbw⟩ := hrel
    have hB := (bcell hbw).1
    have hF := (bcell hbw).2
    have e0 : wr.cell? ⟨w.heap.size, 4, none⟩ = some (.slice A l.length k0) := by rw [hB _ _ (by omega)]; simp [go_sem]
    have e1 : wr.cell? ⟨w.heap.size + 1, 0, none⟩ = some (.int .i64 0) := by rw [hB _ _ (by omega)]; simp [go_sem]
    have e2 : wr.cell? ⟨w.heap.size + 1, 1, none⟩ = some (.int .i64 0) := by rw [hB _ _ (by omega)]; simp [go_sem]
    have hRB : wr.heap[w.heap.size + 1]? = some (.cells #[.int .i64 0, .int .i64 0] 27 (0, 0)) := by
      refine (hbw.block (w.heap.size + 1) (by omega)).trans ?_
      have := heap_alloc_new (w.alloc (.cells #[.int .i64 c0, .int .i64 c1, .int .i64 c2, .int .i64 c3, .slice A l.length k0] 25)) (.cells #[.int .i64 0, .int .i64 0] 27)
      simpa using this
    have hW : Below w.heap.size w wr := Below.trans (b := (w.alloc _).alloc _) (by (repeat' (first | (with_reducible exact Below.refl _ _) | (with_reducible assumption) | (with_reducible refine below_drewN ?_ _) | (with_reducible refine Below.drew ?_) | (with_reducible refine Below.alloc ?_ ?_ _) | (with_reducible refine Below.setCell ?_ ?_ _) | (refine Below.trans ?_ (Below.mono (by assumption) ?_)) | go_size))) (hbw.mono (by omega))
    have HB := hid hbw
    have HW := hid hW
    have HMM := hid hm
    have HRB := hid hRB
    clear hB hF hbw hm hRB
    by_cases hlt : k < l.length
    · obtain ⟨b, off, rfl, hb, h0, h1⟩ := (HR.out.below hW (Nat.le_refl _)).dot hlt
      clear hW
      have hs := take_step (stepS i) m0 l k hlt
      generalize hd : l[k] = d at *
      obtain ⟨d0, d1⟩ := d
      have HS := hid hs
      clear hd hs
      simp only at h0 h1
      by_cases q1 : d0 = i
      · by_cases q2 : m < d1
        · have q3 : (d0 == i) = true := by simp [q1]
          have hd : decide (m < d1) = true := by simp [q2]
          have q4 : 0 ≤ d1 := by omega
          go_wp2
          go_roundw
          case rel => exact ⟨k + 1, d1, by omega, by go_num, rfl, by rw [HS.out, ← HMM.out, stepS, if_pos ⟨q1, q2⟩], q4, HB.out⟩
          case measure => simp [intOf]; omega
        · have q3 : (d0 == i) = true := by simp [q1]
          have hd : decide (m < d1) = false := by simp; omega
          go_wp2
          go_roundw
          case rel => exact ⟨k + 1, m, by omega, by go_num, rfl, by rw [HS.out, ← HMM.out, stepS, if_neg (fun h => q2 h.2)], hm0, HB.out⟩
          case measure => simp [intOf]; omega
      · have q3 : (d0 == i) = false := by simp [q1]
        go_wp2
        go_roundw
        case rel => exact ⟨k + 1, m, by omega, by go_num, rfl, by rw [HS.out, ← HMM.out, stepS, if_neg (fun h => q1 h.1)], hm0, HB.out⟩
        case measure => simp [intOf]; omega
    · have he : m = M := by rw [HMM.out, HM.out, show k = l.length by omega, List.take_length]
      subst he
      have f0 := fun j => frozen_of_row wr (w.heap.size + 1) j _ _ HRB.out
      clear hW
      by_cases q : 1099511627776 ≤ m
      · have hd : decide ((1099511627776 : Int) ≤ m) = true := by simp [q]
        go_wp2
        have hD := HD.out
        have hE := HE.out
        rw [if_pos q] at hD hE
        subst hD hE
        have hW := heap_setCell_same _ (w.heap.size + 1) 1 _ _ (.int .i64 0) (heap_setCell_same wr (w.heap.size + 1) 0 _ _ (.int .i64 0) HRB.out)
        have hB := (HW.out.setCell (p := ⟨w.heap.size + 1, 0, none⟩) (Nat.le_succ _) (.int .i64 0)).setCell (p := ⟨w.heap.size + 1, 1, none⟩) (Nat.le_succ _) (.int .i64 0)
        generalize (wr.setCell ⟨w.heap.size + 1, 0, none⟩ (.int .i64 0)).setCell ⟨w.heap.size + 1, 1, none⟩ (.int .i64 0) = W5 at *
        have q0 : W5.cell? ⟨w.heap.size + 1, 0, none⟩ = some (.int .i64 0) := (cell_of_row W5 _ 0 _ _ _ hW).trans rfl
        have q1 : W5.cell? ⟨w.heap.size + 1, 1, none⟩ = some (.int .i64 0) := (cell_of_row W5 _ 1 _ _ _ hW).trans rfl
        exact bodyPost_ret (v := .tuple #[dval (0, 0), .int .i64 2]) (by simp [results, Try.results22, go_sem, q0, q1, dval]) rfl ⟨rfl, hB⟩
      · have hd : decide ((1099511627776 : Int) ≤ m) = false := by simp; omega
        have zw : IntKind.i64.wrap (m + 1) = m + 1 := IntWalk.i64_in _ (by omega)
        go_wp2
        have hD := HD.out
        have hE := HE.out
        rw [if_neg (by omega)] at hD hE
        subst hD hE
        have hW := heap_setCell_same _ (w.heap.size + 1) 1 _ _ (.int .i64 (m + 1)) (heap_setCell_same wr (w.heap.size + 1) 0 _ _ (.int .i64 i) HRB.out)
        have hB := (HW.out.setCell (p := ⟨w.heap.size + 1, 0, none⟩) (Nat.le_succ _) (.int .i64 i)).setCell (p := ⟨w.heap.size + 1, 1, none⟩) (Nat.le_succ _) (.int .i64 (m + 1))
        generalize (wr.setCell ⟨w.heap.size + 1, 0, none⟩ (.int .i64 i)).setCell ⟨w.heap.size + 1, 1, none⟩ (.int .i64 (m + 1)) = W5 at *
        have q0 : W5.cell? ⟨w.heap.size + 1, 0, none⟩ = some (.int .i64 i) := (cell_of_row W5 _ 0 _ _ _ hW).trans rfl
        have q1 : W5.cell? ⟨w.heap.size + 1, 1, none⟩ = some (.int .i64 (m + 1)) := (cell_of_row W5 _ 1 _ _ _ hW).trans rfl
        exact bodyPost_ret (v := .tuple #[dval (i, m + 1), .int .i64 0]) (by simp [results, Try.results22, go_sem, q0, q1, dval]) rfl ⟨rfl, hB⟩

set_option maxHeartbeats 1000000 in
set_option maxRecDepth 100000 in
theorem next_any (c : Ctx) (i : Int) (A : Option Addr) (k0 : Nat) (w : World) (hr : Row w w.heap.size A (dcells c.cloud)) (hl : c.cloud.length ≤ 9223372036854775807) :
    Calls Try.prog 23 #[cval c A k0, .int .i64 i] w (DotErr (nextD c i) (nextE c i) w) := by
  have HCK := hid (fun w1 (hb : Below w.heap.size w w1) => check_any c A k0 w1 ((hr.below hb (Nat.le_refl _)).more hb.size) hl)
  have hD : nextD c i = if checkI c ≠ 0 then (0, 0) else if inB i 0 3 = false then (0, 0) else if 1099511627776 ≤ maxS c i then (0, 0) else (i, maxS c i + 1) := rfl
  have hE : nextE c i = if checkI c ≠ 0 then checkI c else if inB i 0 3 = false then 1 else if 1099511627776 ≤ maxS c i then 2 else 0 := rfl
  have hZ : checkI c = 0 → clkIn c ∧ ∀ d ∈ c.cloud, rightB d.1 d.2 = true := fun h => ⟨(checkI_zero h).1, (checkI_zero h).2.2⟩
  have hM : maxS c i = c.cloud.foldl (stepS i) (c.at_ i) := rfl
  have hat := fun h0 h4 => at_cell c i h0 h4
  have hain : clkIn c → 0 ≤ c.at_ i ∧ c.at_ i ≤ 1099511627776 := fun h => at_in h i
  generalize nextD c i = D at *
  generalize nextE c i = X at *
  generalize maxS c i = M at *
  generalize checkI c = E at *
  generalize hm0 : c.at_ i = m0 at *
  clear hm0
  generalize clkIn c = CI at *
  obtain ⟨c0, c1, c2, c3, l⟩ := c
  have HR := hid hr
  have HM := hid hM
  have HD := hid hD
  have HE := hid hE
  have HZ := hid hZ
  have HAT := hid hat
  have HAI := hid hain
  clear hr hM hD hE hat hZ hain
  simp only [cval] at *
  go_enter Try.func23, Try.ntmps23
  go_wp2_with fail
  refine (HCK.out _ (by (repeat' (first | (with_reducible exact Below.refl _ _) | (with_reducible assumption) | (with_reducible refine below_drewN ?_ _) | (with_reducible refine Below.drew ?_) | (with_reducible refine Below.alloc ?_ ?_ _) | (with_reducible refine Below.setCell ?_ ?_ _) | (refine Below.trans ?_ (Below.mono (by assumption) ?_)) | go_size)))).mono ?_
  rintro e w1 ⟨rfl, hb1⟩
  have hRB : w1.heap[w.heap.size + 1]? = some (.cells #[.int .i64 0, .int .i64 0] 27 (0, 0)) := by
    refine (hb1.block (w.heap.size + 1) (by simp)).trans ?_
    have := heap_alloc_new (w.alloc (.cells #[.int .i64 c0, .int .i64 c1, .int .i64 c2, .int .i64 c3, .slice A l.length k0] 25)) (.cells #[.int .i64 0, .int .i64 0] 27)
    simpa using this
  have hCB : w1.heap[w.heap.size]? = some (.cells #[.int .i64 c0, .int .i64 c1, .int .i64 c2, .int .i64 c3, .slice A l.length k0] 25 (0, 0)) := by
    refine (hb1.block w.heap.size (by simp; omega)).trans ((Below.heap_alloc _ _ _ (by simp)).trans (heap_alloc_new w _))
  have hW1 : Below w.heap.size w w1 := Below.trans (b := (w.alloc _).alloc _) (by (repeat' (first | (with_reducible exact Below.refl _ _) | (with_reducible assumption) | (with_reducible refine below_drewN ?_ _) | (with_reducible refine Below.drew ?_) | (with_reducible refine Below.alloc ?_ ?_ _) | (with_reducible refine Below.setCell ?_ ?_ _) | (refine Below.trans ?_ (Below.mono (by assumption) ?_)) | go_size))) (hb1.mono (by simp; omega))
  have hsz1 : w.heap.size + 1 < w1.heap.size := by have := hb1.size; simp at this; omega
  have HW1 := hid hW1
  have HRB1 := hid hRB
  have HCB1 := hid hCB
  have f0 := fun j => frozen_of_row w1 (w.heap.size + 1) j _ _ hRB
  have e0 : w1.cell? ⟨w.heap.size + 1, 0, none⟩ = some (.int .i64 0) := (cell_of_row w1 _ 0 _ _ _ hRB).trans rfl
  have e1 : w1.cell? ⟨w.heap.size + 1, 1, none⟩ = some (.int .i64 0) := (cell_of_row w1 _ 1 _ _ _ hRB).trans rfl
  have e4 : w1.cell? ⟨w.heap.size, 4, none⟩ = some (.slice A l.length k0) := (cell_of_row w1 _ 4 _ _ _ hCB).trans rfl
  clear hb1 hW1 hRB
  by_cases qE : E = 0
  rotate_left
  · have HRB := HRB1
    have qe : (E == 0) = false := by simp [qE]
    have hD := HD.out
    have hE := HE.out
    rw [if_pos qE] at hD hE
    subst hD hE
    go_wp2
    have hW := heap_setCell_same _ (w.heap.size + 1) 1 _ _ (.int .i64 0) (heap_setCell_same w1 (w.heap.size + 1) 0 _ _ (.int .i64 0) HRB.out)
    have hB := (HW1.out.setCell (p := ⟨w.heap.size + 1, 0, none⟩) (Nat.le_succ _) (.int .i64 0)).setCell (p := ⟨w.heap.size + 1, 1, none⟩) (Nat.le_succ _) (.int .i64 0)
    generalize (w1.setCell ⟨w.heap.size + 1, 0, none⟩ (.int .i64 0)).setCell ⟨w.heap.size + 1, 1, none⟩ (.int .i64 0) = W5 at *
    have q0 : W5.cell? ⟨w.heap.size + 1, 0, none⟩ = some (.int .i64 0) := (cell_of_row W5 _ 0 _ _ _ hW).trans rfl
    have q1 : W5.cell? ⟨w.heap.size + 1, 1, none⟩ = some (.int .i64 0) := (cell_of_row W5 _ 1 _ _ _ hW).trans rfl
    exact bodyPost_ret (v := .tuple #[dval (0, 0), .int .i64 X]) (by simp [results, Try.results23, go_sem, q0, q1, dval]) rfl ⟨rfl, hB⟩
  · subst qE
    obtain ⟨hci, hrt⟩ := HZ.out rfl
    have hD := HD.out
    have hE := HE.out
    rw [if_neg (by simp)] at hD hE
    have HD := hid hD
    have HE := hid hE
    have HRT := hid hrt
    obtain ⟨ha0, ha1⟩ := HAI.out hci
    clear hci hrt hD hE
    by_cases qi : inB i 0 3 = false
    · have hD := HD.out
      have hE := HE.out
      rw [if_pos qi] at hD hE
      subst hD hE
      have HRB := HRB1
      by_cases q0 : i < 0
      · have hd0 : decide (i < 0) = true := by simp [q0]
        clear qi
        go_wp2
        have hW := heap_setCell_same _ (w.heap.size + 1) 1 _ _ (.int .i64 0) (heap_setCell_same w1 (w.heap.size + 1) 0 _ _ (.int .i64 0) HRB.out)
        have hB := (HW1.out.setCell (p := ⟨w.heap.size + 1, 0, none⟩) (Nat.le_succ _) (.int .i64 0)).setCell (p := ⟨w.heap.size + 1, 1, none⟩) (Nat.le_succ _) (.int .i64 0)
        generalize (w1.setCell ⟨w.heap.size + 1, 0, none⟩ (.int .i64 0)).setCell ⟨w.heap.size + 1, 1, none⟩ (.int .i64 0) = W5 at *
        have q0 : W5.cell? ⟨w.heap.size + 1, 0, none⟩ = some (.int .i64 0) := (cell_of_row W5 _ 0 _ _ _ hW).trans rfl
        have q1 : W5.cell? ⟨w.heap.size + 1, 1, none⟩ = some (.int .i64 0) := (cell_of_row W5 _ 1 _ _ _ hW).trans rfl
        exact bodyPost_ret (v := .tuple #[dval (0, 0), .int .i64 1]) (by simp [results, Try.results23, go_sem, q0, q1, dval]) rfl ⟨rfl, hB⟩
      · have hd0 : decide (i < 0) = false := by simp; omega
        have hd1 : decide (4 ≤ i) = true := by simp [inB] at qi; simp; omega
        clear qi
        go_wp2
        have hW := heap_setCell_same _ (w.heap.size + 1) 1 _ _ (.int .i64 0) (heap_setCell_same w1 (w.heap.size + 1) 0 _ _ (.int .i64 0) HRB.out)
        have hB := (HW1.out.setCell (p := ⟨w.heap.size + 1, 0, none⟩) (Nat.le_succ _) (.int .i64 0)).setCell (p := ⟨w.heap.size + 1, 1, none⟩) (Nat.le_succ _) (.int .i64 0)
        generalize (w1.setCell ⟨w.heap.size + 1, 0, none⟩ (.int .i64 0)).setCell ⟨w.heap.size + 1, 1, none⟩ (.int .i64 0) = W5 at *
        have q0 : W5.cell? ⟨w.heap.size + 1, 0, none⟩ = some (.int .i64 0) := (cell_of_row W5 _ 0 _ _ _ hW).trans rfl
        have q1 : W5.cell? ⟨w.heap.size + 1, 1, none⟩ = some (.int .i64 0) := (cell_of_row W5 _ 1 _ _ _ hW).trans rfl
        exact bodyPost_ret (v := .tuple #[dval (0, 0), .int .i64 1]) (by simp [results, Try.results23, go_sem, q0, q1, dval]) rfl ⟨rfl, hB⟩
    · have qi' : 0 ≤ i ∧ i ≤ 3 := by simpa [inB] using qi
      obtain ⟨i0, i3⟩ := qi'
      have hD := HD.out
      have hE := HE.out
      rw [if_neg qi] at hD hE
      have HD := hid hD
      have HE := hid hE
      have hd0 : decide (i < 0) = false := by simp; omega
      have hd1 : decide (4 ≤ i) = false := by simp; omega
      have i4 : i < 4 := by omega
      have en : w1.cell? ⟨w.heap.size, i.toNat, none⟩ = some (.int .i64 m0) := (cell_of_row w1 _ i.toNat _ _ _ HCB1.out).trans (HAT.out i0 i4 _)
      clear qi hD hE
      go_wp2
      clear en f0 e0 e1 e4 hd0 hd1
      obtain ⟨wo, hwo⟩ : ∃ wo : World, wo = w1 := ⟨_, rfl⟩
      go_loopw [7, 30] (fun s7 s30 wr => ∃ (k : Nat) (m : Int), k ≤ l.length ∧ s30 = .int .i64 k ∧ s7 = .int .i64 m ∧ m = (l.take k).foldl (stepS i) m0 ∧ 0 ≤ m ∧ m ≤ 1099511627776 ∧ Below w1.heap.size w1 wr) (fun _ s30 _ => l.length - (intOf s30).toNat)
      case atStart => exact ⟨0, m0, by omega, rfl, rfl, rfl, ha0, ha1, Below.refl _ _⟩
      case round =>
        obtain ⟨k, m, hk, rfl, rfl, hm, hm0, hm1, hbw⟩ := hrel
        have hRB := (hbw.block (w.heap.size + 1) hsz1).trans HRB1.out
        have hW := HW1.out.trans (hbw.mono (show w.heap.size ≤ w1.heap.size by omega))
        have hszr : w1.heap.size ≤ wr.heap.size := hbw.size
        have HB := hid hbw
        have HW := hid hW
        have HMM := hid hm
        have HRB := hid hRB
        clear hbw hm hRB
        by_cases hlt : k < l.length
        · obtain ⟨b, off, rfl, hb, h0, h1⟩ := (HR.out.below hW (Nat.le_refl _)).dot hlt
          clear hW
          have hs := take_step (stepS i) m0 l k hlt
          have hdr := HRT.out l[k] (List.getElem_mem _)
          generalize hd : l[k] = d at *
          obtain ⟨d0, d1⟩ := d
          have HS := hid hs
          clear hd hs
          simp only at h0 h1 hdr
          have hR : 0 ≤ d0 ∧ d0 < 4 ∧ 1 ≤ d1 ∧ d1 ≤ 1099511627776 := by simpa [rightB, and_assoc] using hdr
          obtain ⟨r0, r4, u0, u1⟩ := hR
          clear hdr
          have hne : (b = wr.heap.size) = False := by simp; omega
          have hb2 : b < wr.heap.size := by omega
          by_cases q1 : d0 = i
          · have q3 : (d0 == i) = true := by simp [q1]
            have hmx : max m d1 = stepS i m (d0, d1) := by unfold stepS; by_cases h : m < d1 <;> simp [q1, h] <;> omega
            have HMX := hid hmx
            clear hmx
            go_wp2
            go_roundw
            case rel => exact ⟨k + 1, max m d1, by omega, by go_num, rfl, by rw [HS.out, ← HMM.out]; exact HMX.out, by omega, by omega, HB.out.alloc (by omega) _⟩
            case measure => simp [intOf]; omega
          · have q3 : (d0 == i) = false := by simp [q1]
            go_wp2
            go_roundw
            case rel => exact ⟨k + 1, m, by omega, by go_num, rfl, by rw [HS.out, ← HMM.out, stepS, if_neg (fun h => q1 h.1)], hm0, hm1, HB.out.alloc (by omega) _⟩
            case measure => simp [intOf]; omega
        · have he : m = M := by rw [HMM.out, HM.out, show k = l.length by omega, List.take_length]
          subst he
          have f0 := fun j => frozen_of_row wr (w.heap.size + 1) j _ _ HRB.out
          have e0 : wr.cell? ⟨w.heap.size + 1, 0, none⟩ = some (.int .i64 0) := (cell_of_row wr _ 0 _ _ _ HRB.out).trans rfl
          have e1 : wr.cell? ⟨w.heap.size + 1, 1, none⟩ = some (.int .i64 0) := (cell_of_row wr _ 1 _ _ _ HRB.out).trans rfl
          clear hW
          by_cases q : 1099511627776 ≤ m
          · have qe : (m == 1099511627776) = true := by simp; omega
            go_wp2
            have hD := HD.out
            have hE := HE.out
            rw [if_pos q] at hD hE
            subst hD hE
            have hW := heap_setCell_same _ (w.heap.size + 1) 1 _ _ (.int .i64 0) (heap_setCell_same wr (w.heap.size + 1) 0 _ _ (.int .i64 0) HRB.out)
            have hB := (HW.out.setCell (p := ⟨w.heap.size + 1, 0, none⟩) (Nat.le_succ _) (.int .i64 0)).setCell (p := ⟨w.heap.size + 1, 1, none⟩) (Nat.le_succ _) (.int .i64 0)
            generalize (wr.setCell ⟨w.heap.size + 1, 0, none⟩ (.int .i64 0)).setCell ⟨w.heap.size + 1, 1, none⟩ (.int .i64 0) = W5 at *
            have q0 : W5.cell? ⟨w.heap.size + 1, 0, none⟩ = some (.int .i64 0) := (cell_of_row W5 _ 0 _ _ _ hW).trans rfl
            have q1 : W5.cell? ⟨w.heap.size + 1, 1, none⟩ = some (.int .i64 0) := (cell_of_row W5 _ 1 _ _ _ hW).trans rfl
            exact bodyPost_ret (v := .tuple #[dval (0, 0), .int .i64 2]) (by simp [results, Try.results23, go_sem, q0, q1, dval]) rfl ⟨rfl, hB⟩
          · have qe : (m == 1099511627776) = false := by simp; omega
            have zw : IntKind.i64.wrap (m + 1) = m + 1 := IntWalk.i64_in _ (by omega)
            go_wp2
            have hD := HD.out
            have hE := HE.out
            rw [if_neg (by omega)] at hD hE
            subst hD hE
            have hW := heap_setCell_same _ (w.heap.size + 1) 1 _ _ (.int .i64 (m + 1)) (heap_setCell_same wr (w.heap.size + 1) 0 _ _ (.int .i64 i) HRB.out)
            have hB := (HW.out.setCell (p := ⟨w.heap.size + 1, 0, none⟩) (Nat.le_succ _) (.int .i64 i)).setCell (p := ⟨w.heap.size + 1, 1, none⟩) (Nat.le_succ _) (.int .i64 (m + 1))
            generalize (wr.setCell ⟨w.heap.size + 1, 0, none⟩ (.int .i64 i)).setCell ⟨w.heap.size + 1, 1, none⟩ (.int .i64 (m + 1)) = W5 at *
            have q0 : W5.cell? ⟨w.heap.size + 1, 0, none⟩ = some (.int .i64 i) := (cell_of_row W5 _ 0 _ _ _ hW).trans rfl
            have q1 : W5.cell? ⟨w.heap.size + 1, 1, none⟩ = some (.int .i64 (m + 1)) := (cell_of_row W5 _ 1 _ _ _ hW).trans rfl
            exact bodyPost_ret (v := .tuple #[dval (i, m + 1), .int .i64 0]) (by simp [results, Try.results23, go_sem, q0, q1, dval]) rfl ⟨rfl, hB⟩
end Go.Proofs.Ytogegnikpjcpdaa
