/- DotU, TCtx -/
import Derived.Test.YtogegnikpjcpdaaTableSaysG05
import Derived.Deep.CutBlock
import Derived.Deep.CutRange
import Derived.Test.YtogegnikpjcpdaaTableSaysG11
/- viewlaw.DotSays$1, viewlaw.DotSays: the first walk. -/
namespace Go.Proofs.Ytogegnikpjcpdaa
set_option linter.unusedVariables false
open Go.ChangeShapes Go.WideShapes Go.ChangeAt Go.RowKit

theorem RnotRight_any (d : Int × Int) (w : World) :
    Calls Try.prog 18 #[dval d] w fun e w' => e = .returned (.bool (!rightB d.1 d.2)) ∧ Below w.heap.size w w' := by
  obtain ⟨n, s⟩ := d
  simp only [dval]
  go_enter Try.func18, Try.ntmps18
  go_wp2_with (go_at_call 19; refine (Rright_any _ _ _).mono ?_; rintro e w' ⟨rfl, hb⟩)
  go_ret
  exact ⟨rfl, by (repeat' (first | (with_reducible exact Below.refl _ _) | (with_reducible assumption) | (with_reducible refine below_drewN ?_ _) | (with_reducible refine Below.drew ?_) | (with_reducible refine Below.alloc ?_ ?_ _) | (with_reducible refine Below.setCell ?_ ?_ _) | (refine Below.trans ?_ (Below.mono (by assumption) ?_)) | go_size))⟩

theorem enters_saysF : ∀ args w, (callFunc 18 args).run Try.prog w = .ok (.enter 18 args) w := enters_of Try.func18 (by kernel_rfl) rfl
theorem predSays (l : List (Int × Int)) (w : World) : PredD 18 #[] (fun d => !rightB d.1 d.2) l w := fun w' _ d _ => RnotRight_any d w'

theorem packStep_len (c : Ctx) (d : Int × Int) : (packStep c d).cloud.length ≤ c.cloud.length + 1 := by
  unfold packStep
  split
  · omega
  · split
    · rw [inc_cloud]; omega
    · simp
theorem foldl_len : ∀ (l : List (Int × Int)) (c : Ctx), (l.foldl packStep c).cloud.length ≤ c.cloud.length + l.length
  | [], c => by simp
  | d :: l, c => by
    have h1 := foldl_len l (packStep c d)
    have h2 := packStep_len c d
    simp only [List.foldl_cons, List.length_cons]
    omega
theorem makeC_len (l : List (Int × Int)) : (makeC l).cloud.length ≤ 400 := by
  unfold makeC
  split
  · simp
  · split
    · simp
    · have h1 := foldl_len (cpt (l.mergeSort dotLe)) ⟨0, 0, 0, 0, []⟩
      have h2 := cpt_length (l.mergeSort dotLe)
      rw [List.length_mergeSort] at h2
      simp only [List.length_nil] at h1
      unfold packL
      omega

set_option maxHeartbeats 1000000 in
set_option maxRecDepth 100000 in
theorem says_any (c : Ctx) (d : Int × Int) (l : List (Int × Int)) (i : Int) (A B : Option Addr) (k0 k1 : Nat) (w : World) (hr : Row w w.heap.size A (dcells c.cloud)) (hl : c.cloud.length ≤ 9223372036854775807)
    (hs : Row w w.heap.size B (dcells l)) (hm : l.length ≤ 9223372036854775807) :
    Calls Try.prog 3 #[cval c A k0, dval d, .slice B l.length k1, .int .i64 i] w fun e w' => e = .returned (.bool true) ∧ Below w.heap.size w w' := by
  have HCK := hid (fun w1 (hb : Below w.heap.size w w1) => context_any c A k0 w1 ((hr.below hb (Nat.le_refl _)).more hb.size) hl)
  have HMK := hid (fun w1 (hb : Below w.heap.size w w1) => make_any l B k1 w1 ((hs.below hb (Nat.le_refl _)).more hb.size) hm)
  have HCF := hid (fun w1 (hb : Below w.heap.size w w1) => containsFunc_any 18 #[] (fun d => !rightB d.1 d.2) l B k1 w1 ((hs.below hb (Nat.le_refl _)).more hb.size) hm enters_saysF (predSays l w1))
  have HPK := hid (fun w1 (hb : Below w.heap.size w w1) (h4 : l.length ≤ 400) hrt => Rpacked_any 0 0 0 0 l B k1 w1 ((hs.below hb (Nat.le_refl _)).more hb.size) (by omega) (by simp [clkIn]) hrt)
  have HNX := hid (fun w1 (hb : Below w.heap.size w w1) => next_any c i A k0 w1 ((hr.below hb (Nat.le_refl _)).more hb.size) hl)
  have HRN := hid (fun w1 (hb : Below w.heap.size w w1) (hc : clkIn c) h0 h4 => Rnext_any c i A k0 w1 ((hr.below hb (Nat.le_refl _)).more hb.size) hl hc h0 h4)
  have HCH := hid (fun w1 (hb : Below w.heap.size w w1) => check_any c A k0 w1 ((hr.below hb (Nat.le_refl _)).more hb.size) hl)
  have HHS := hid (fun w1 (hb : Below w.heap.size w w1) => has_any c d A k0 w1 ((hr.below hb (Nat.le_refl _)).more hb.size) hl)
  have HRH := hid (fun w1 (hb : Below w.heap.size w w1) => Rhas_any c d A k0 w1 ((hr.below hb (Nat.le_refl _)).more hb.size) hl)
  have HR := hid hr
  have HS := hid hs
  obtain ⟨d0, d1⟩ := d
  clear hr hs
  simp only [cval, dval] at *
  go_enter Try.func3, Try.ntmps3
  go_wp2_with fail
  refine (HCK.out _ (by (repeat' (first | (with_reducible exact Below.refl _ _) | (with_reducible assumption) | (with_reducible refine below_drewN ?_ _) | (with_reducible refine Below.drew ?_) | (with_reducible refine Below.alloc ?_ ?_ _) | (with_reducible refine Below.setCell ?_ ?_ _) | (refine Below.trans ?_ (Below.mono (by assumption) ?_)) | go_size)))).mono ?_
  rintro e w1 ⟨rfl, hb1⟩
  have hB1 : Below w.heap.size w w1 := Below.trans (b := (w.alloc _).alloc _) (by (repeat' (first | (with_reducible exact Below.refl _ _) | (with_reducible assumption) | (with_reducible refine below_drewN ?_ _) | (with_reducible refine Below.drew ?_) | (with_reducible refine Below.alloc ?_ ?_ _) | (with_reducible refine Below.setCell ?_ ?_ _) | (refine Below.trans ?_ (Below.mono (by assumption) ?_)) | go_size))) (hb1.mono (by simp; omega))
  go_wp2_with fail
  refine (HMK.out _ hB1).mono ?_
  rintro e w2 ⟨AM, km, rfl, hrm, hb2, hnm⟩
  have HB1 := hid hb1
  have HBB1 := hid hB1
  have HB2 := hid hb2
  have HRM := hid hrm
  clear hb1 hB1 hb2 hrm hnm
  go_upto_block 0 with fail
  obtain ⟨w3, hw3⟩ : ∃ w3, w3 = ((w2.alloc (.cells #[.int .i64 (makeC l).c0, .int .i64 (makeC l).c1, .int .i64 (makeC l).c2, .int .i64 (makeC l).c3, .slice AM (makeC l).cloud.length km] 25)).alloc (.cells #[.int .i64 0, .int .i64 0, .int .i64 0, .int .i64 0, .slice none 0 0] 25)) := ⟨_, rfl⟩
  rw [← hw3]
  have HW3 := hid hw3
  clear hw3
  go_cut [13] from 25 to 34 (fun s13 wx => s13 = .int .i64 (makeE l) ∧ ∃ A2 k2, wx.heap[w2.heap.size + 1]? = some (.cells #[.int .i64 (makeC l).c0, .int .i64 (makeC l).c1, .int .i64 (makeC l).c2, .int .i64 (makeC l).c3, .slice A2 (makeC l).cloud.length k2] 25 (0, 0)) ∧ Row wx wx.heap.size A2 (dcells (makeC l).cloud) ∧ Below (w2.heap.size + 1) w3 wx)
  case first =>
    have hw3 := HW3.out
    have hs3 : w3.heap.size = w2.heap.size + 1 + 1 := by rw [hw3]; simp
    have hB3 : Below w.heap.size w w3 := by
      have h1 := HBB1.out.trans (HB2.out.mono HBB1.out.size)
      have h2 := h1.size
      rw [hw3]
      exact (h1.alloc (by omega) _).alloc (by simp; omega) _
    have hR3 : w3.heap[w2.heap.size + 1]? = some (.cells #[.int .i64 0, .int .i64 0, .int .i64 0, .int .i64 0, .slice none 0 0] 25 (0, 0)) := by
      have := heap_alloc_new (w2.alloc (.cells #[.int .i64 (makeC l).c0, .int .i64 (makeC l).c1, .int .i64 (makeC l).c2, .int .i64 (makeC l).c3, .slice AM (makeC l).cloud.length km] 25)) (.cells #[.int .i64 0, .int .i64 0, .int .i64 0, .int .i64 0, .slice none 0 0] 25)
      rw [hw3]; simpa using this
    have HR3 := hid hR3
    have HB3 := hid hB3
    have HS3 := hid hs3
    clear hw3 hs3 hB3 hR3
    by_cases h4 : 400 < l.length
    · have hc : makeC l = ⟨0, 0, 0, 0, []⟩ := by simp [makeC, h4]
      have he : makeE l = 2 := by simp [makeE, h4]
      have hd : decide ((400 : Int) < (l.length : Int)) = true := by simp; omega
      have HC := hid hc
      have HE := hid he
      clear hc he
      go_wp2
      go_meet
      case rel => exact ⟨by rw [HE.out], none, 0, by rw [HC.out]; exact HR3.out, by rw [HC.out]; exact Row.nil, Below.refl _ _⟩
    · have hd : decide ((400 : Int) < (l.length : Int)) = false := by simp; omega
      cases hany : l.any (fun d => !rightB d.1 d.2)
      · have hc : makeC l = packL 0 0 0 0 l := by rw [makeC, if_neg h4, if_neg (by simp [hany])]
        have he : makeE l = 0 := by rw [makeE, if_neg h4, if_neg (by simp [hany])]
        have hrt : ∀ d ∈ l, rightB d.1 d.2 = true := fun d hd => by
          rw [List.any_eq_false] at hany
          have := hany d hd
          simpa using this
        rw [hany] at HCF
        have HC := hid hc
        have HE := hid he
        have HRT := hid hrt
        clear hc he hrt hany
        go_wp2_with fail
        refine (HCF.out _ HB3.out).mono ?_
        rintro e w4 ⟨rfl, hb4⟩
        have hB4 := HB3.out.trans (hb4.mono HB3.out.size)
        go_wp2_with fail
        refine (HPK.out _ hB4 (by omega) HRT.out).mono ?_
        rintro e w5 ⟨A', kk, rfl, hrow, hb5, hnew⟩
        rw [← HC.out] at hrow
        rw [← HC.out]
        have hs4 := hb4.size
        have hB5 := hb4.trans (hb5.mono hb4.size)
        have hlt : w2.heap.size + 1 < w3.heap.size := by have := HS3.out; omega
        have hR5 := (hB5.block (w2.heap.size + 1) hlt).trans HR3.out
        have HROW := hid hrow
        have HB5 := hid hB5
        have HNEW := hid hnew
        have HRR := hid hR5
        have f0 := fun j => frozen_of_row w5 (w2.heap.size + 1) j _ _ hR5
        have r0 : w5.cell? ⟨w2.heap.size + 1, 0, none⟩ = some (.int .i64 0) := (cell_of_row w5 _ 0 _ _ _ hR5).trans rfl
        have r1 : w5.cell? ⟨w2.heap.size + 1, 1, none⟩ = some (.int .i64 0) := (cell_of_row w5 _ 1 _ _ _ hR5).trans rfl
        have r2 : w5.cell? ⟨w2.heap.size + 1, 2, none⟩ = some (.int .i64 0) := (cell_of_row w5 _ 2 _ _ _ hR5).trans rfl
        have r3 : w5.cell? ⟨w2.heap.size + 1, 3, none⟩ = some (.int .i64 0) := (cell_of_row w5 _ 3 _ _ _ hR5).trans rfl
        have r4 : w5.cell? ⟨w2.heap.size + 1, 4, none⟩ = some (.slice none 0 0) := (cell_of_row w5 _ 4 _ _ _ hR5).trans rfl
        clear hb4 hB4 hrow hb5 hnew hB5 hR5
        go_wp2
        go_meet
        case rel =>
          refine ⟨by rw [HE.out], A', kk, heap_setCell_same _ _ 4 _ _ _ (heap_setCell_same _ _ 3 _ _ _ (heap_setCell_same _ _ 2 _ _ _ (heap_setCell_same _ _ 1 _ _ _ (heap_setCell_same w5 _ 0 _ _ _ HRR.out)))), ?_, ?_⟩
          · have hn : NewAt (w2.heap.size + 1 + 1) A' := fun b off q e => by have := HNEW.out b off q e; have := HS3.out; omega
            have h5 := ((((HROW.out.setCell_new hn (a := ⟨w2.heap.size + 1, 0, none⟩) (Nat.lt_succ_self _) (.int .i64 (makeC l).c0)).setCell_new hn (a := ⟨w2.heap.size + 1, 1, none⟩) (Nat.lt_succ_self _) (.int .i64 (makeC l).c1)).setCell_new hn (a := ⟨w2.heap.size + 1, 2, none⟩) (Nat.lt_succ_self _) (.int .i64 (makeC l).c2)).setCell_new hn (a := ⟨w2.heap.size + 1, 3, none⟩) (Nat.lt_succ_self _) (.int .i64 (makeC l).c3)).setCell_new hn (a := ⟨w2.heap.size + 1, 4, none⟩) (Nat.lt_succ_self _) (.slice A' (makeC l).cloud.length kk)
            exact h5.more (by simp)
          · have h5 := HB5.out.mono (B' := w2.heap.size + 1) (by omega)
            exact ((((h5.setCell (p := ⟨w2.heap.size + 1, 0, none⟩) (Nat.le_refl _) _).setCell (p := ⟨w2.heap.size + 1, 1, none⟩) (Nat.le_refl _) _).setCell (p := ⟨w2.heap.size + 1, 2, none⟩) (Nat.le_refl _) _).setCell (p := ⟨w2.heap.size + 1, 3, none⟩) (Nat.le_refl _) _).setCell (p := ⟨w2.heap.size + 1, 4, none⟩) (Nat.le_refl _) _
      · have hc : makeC l = ⟨0, 0, 0, 0, []⟩ := by rw [makeC, if_neg h4, if_pos hany]
        have he : makeE l = 5 := by rw [makeE, if_neg h4, if_pos hany]
        rw [hany] at HCF
        have HC := hid hc
        have HE := hid he
        clear hc he hany
        go_wp2_with fail
        refine (HCF.out _ HB3.out).mono ?_
        rintro e w4 ⟨rfl, hb4⟩
        have HB4 := hid hb4
        clear hb4
        go_wp2
        go_meet
        case rel => exact ⟨by rw [HE.out], none, 0, by rw [HC.out]; exact (HB4.out.block _ (by have := HS3.out; omega)).trans HR3.out, by rw [HC.out]; exact Row.nil, HB4.out.mono (by have := HS3.out; omega)⟩
  case rest =>
    obtain ⟨rfl, A2, k2, hm2, hrow2, hbw2⟩ := hcut
    obtain ⟨wm, rfl⟩ : ∃ wm : World, wm = wc := ⟨_, rfl⟩
    have hw3 := HW3.out
    clear HCF HPK HMK HS HW3
    have hml := makeC_len l
    generalize makeC l = M at *
    generalize makeE l = F at *
    have hml2 : M.cloud.length ≤ 9223372036854775807 := by omega
    have HML := hid hml2
    clear hml hml2
    have hs3 : w3.heap.size = w2.heap.size + 1 + 1 := by rw [hw3]; simp
    have h1s := HB1.out.size
    simp only [World.size_alloc] at h1s
    have h2s := HB2.out.size
    have h3s := hbw2.size
    have hM : wm.heap[w2.heap.size]? = some (.cells #[.int .i64 M.c0, .int .i64 M.c1, .int .i64 M.c2, .int .i64 M.c3, .slice AM M.cloud.length km] 25 (0, 0)) := by
      refine (hbw2.block _ (by omega)).trans ?_
      rw [hw3]
      exact (Below.heap_alloc _ _ _ (by simp)).trans (heap_alloc_new w2 _)
    have h32 : Below w2.heap.size w2 w3 := by
      rw [hw3]
      exact ((Below.refl _ w2).alloc (Nat.le_refl _) _).alloc (by simp) _
    have h2c : Below w2.heap.size w2 wm := h32.trans (hbw2.mono (by omega))
    have h1c : Below w1.heap.size w1 wm := HB2.out.trans (h2c.mono h2s)
    have hBc : Below w.heap.size w wm := HBB1.out.trans (h1c.mono (by omega))
    have hC : wm.heap[w.heap.size]? = some (.cells #[.int .i64 c.c0, .int .i64 c.c1, .int .i64 c.c2, .int .i64 c.c3, .slice A c.cloud.length k0] 25 (0, 0)) := by
      refine ((h1c.block _ (by omega)).trans (HB1.out.block _ (by simp; omega))).trans ?_
      exact (Below.heap_alloc _ _ _ (by simp)).trans (heap_alloc_new w _)
    have hD : wm.heap[w.heap.size + 1]? = some (.cells #[.int .i64 d0, .int .i64 d1] 27 (0, 0)) := by
      refine ((h1c.block _ (by omega)).trans (HB1.out.block _ (by simp))).trans ?_
      have := heap_alloc_new (w.alloc (.cells #[.int .i64 c.c0, .int .i64 c.c1, .int .i64 c.c2, .int .i64 c.c3, .slice A c.cloud.length k0] 25)) (.cells #[.int .i64 d0, .int .i64 d1] 27)
      simpa using this
    have hrm : Row wm wm.heap.size AM (dcells M.cloud) := (HRM.out.below h2c (Nat.le_refl _)).more (by omega)
    have HC := hid hC
    have HDD := hid hD
    have HM := hid hM
    have HM2 := hid hm2
    have HRM := hid hrm
    have HRM2 := hid hrow2
    have HBC := hid hBc
    have hwc : w2.heap.size + 1 < wm.heap.size := by omega
    have hw2 : w.heap.size + 1 < w2.heap.size := by omega
    have cc0 : wm.cell? ⟨w.heap.size, 0, none⟩ = some (.int .i64 c.c0) := (cell_of_row wm _ 0 _ _ _ hC).trans rfl
    have cc1 : wm.cell? ⟨w.heap.size, 1, none⟩ = some (.int .i64 c.c1) := (cell_of_row wm _ 1 _ _ _ hC).trans rfl
    have cc2 : wm.cell? ⟨w.heap.size, 2, none⟩ = some (.int .i64 c.c2) := (cell_of_row wm _ 2 _ _ _ hC).trans rfl
    have cc3 : wm.cell? ⟨w.heap.size, 3, none⟩ = some (.int .i64 c.c3) := (cell_of_row wm _ 3 _ _ _ hC).trans rfl
    have cc4 : wm.cell? ⟨w.heap.size, 4, none⟩ = some (.slice A c.cloud.length k0) := (cell_of_row wm _ 4 _ _ _ hC).trans rfl
    have hne : (w.heap.size = wm.heap.size) = False := by simp; omega
    have hlt : w.heap.size < wm.heap.size := by omega
    have hlt1 : w.heap.size < wm.heap.size + 1 := by omega
    clear hM hm2 hrow2 hbw2 hC hD hrm hw3 hs3 h32 h2c h1c hBc h1s h2s h3s HB1 HBB1 HB2
    go_upto_if 37 with fail
    go_cut [15] from 37 to 45 (fun s15 wx => s15 = .int .i64 (nextE c i) ∧ wx.heap[wm.heap.size]? = some (.cells #[.int .i64 (nextD c i).1, .int .i64 (nextD c i).2] 27 (0, 0)) ∧ Below wm.heap.size wm wx)
    case first =>
      have hQ : (wm.alloc (.cells #[.int .i64 0, .int .i64 0] 27)).heap[wm.heap.size]? = some (.cells #[.int .i64 0, .int .i64 0] 27 (0, 0)) := heap_alloc_new wm _
      have HQ := hid hQ
      clear hQ
      by_cases qE : checkI c = 0
      rotate_left
      · have qe : (checkI c == 0) = false := by simp [qE]
        have h1 : nextD c i = (0, 0) := by unfold nextD; rw [if_pos qE]
        have h2 : nextE c i = checkI c := by unfold nextE; rw [if_pos qE]
        have H1 := hid h1
        have H2 := hid h2
        clear h1 h2 qE
        go_wp2
        go_meet
        case rel => exact ⟨by rw [H2.out], by rw [H1.out]; exact HQ.out, by (repeat' (first | (with_reducible exact Below.refl _ _) | (with_reducible assumption) | (with_reducible refine below_drewN ?_ _) | (with_reducible refine Below.drew ?_) | (with_reducible refine Below.alloc ?_ ?_ _) | (with_reducible refine Below.setCell ?_ ?_ _) | (refine Below.trans ?_ (Below.mono (by assumption) ?_)) | go_size))⟩
      · have qe : (checkI c == 0) = true := by simp [qE]
        obtain ⟨hci, -, -⟩ := checkI_zero qE
        by_cases qi : inB i 0 3 = true
        rotate_left
        · have qf : inB i 0 3 = false := by simpa using qi
          have h1 : nextD c i = (0, 0) := by unfold nextD; rw [if_neg (by simp [qE]), if_pos qf]
          have h2 : nextE c i = 1 := by unfold nextE; rw [if_neg (by simp [qE]), if_pos qf]
          have H1 := hid h1
          have H2 := hid h2
          clear h1 h2 qE qi hci
          go_wp2_with (go_at_call 21; refine (in_any _ _ _ _).mono ?_; rintro e w' ⟨rfl, rfl⟩)
          go_meet
          case rel => exact ⟨by rw [H2.out], by rw [H1.out]; exact HQ.out, by (repeat' (first | (with_reducible exact Below.refl _ _) | (with_reducible assumption) | (with_reducible refine below_drewN ?_ _) | (with_reducible refine Below.drew ?_) | (with_reducible refine Below.alloc ?_ ?_ _) | (with_reducible refine Below.setCell ?_ ?_ _) | (refine Below.trans ?_ (Below.mono (by assumption) ?_)) | go_size))⟩
        · have qf : 0 ≤ i ∧ i ≤ 3 := by simpa [inB] using qi
          have h1 : nextD c i = rnextD c i := by unfold nextD; rw [if_neg (by simp [qE]), if_neg (by simp [qi])]
          have h2 : nextE c i = rnextE c i := by unfold nextE; rw [if_neg (by simp [qE]), if_neg (by simp [qi])]
          have H1 := hid h1
          have H2 := hid h2
          obtain ⟨i0, i3⟩ := qf
          have HCI := hid hci
          clear h1 h2 qE hci
          go_wp2_with (go_at_call 21; refine (in_any _ _ _ _).mono ?_; rintro e w' ⟨rfl, rfl⟩)
          refine (HRN.out _ (HBC.out.alloc (by omega) _) HCI.out i0 (by omega)).mono ?_
          rintro e w5 ⟨rfl, hb5⟩
          rw [← H1.out, ← H2.out]
          have hQ5 := (hb5.block wm.heap.size (by simp)).trans HQ.out
          have hb6 := ((Below.refl wm.heap.size wm).alloc (Nat.le_refl _) (.cells #[.int .i64 0, .int .i64 0] 27)).trans (hb5.mono (by simp))
          have HQ5 := hid hQ5
          have HB6 := hid hb6
          have f0 := fun j => frozen_of_row w5 wm.heap.size j _ _ hQ5
          have r0 : w5.cell? ⟨wm.heap.size, 0, none⟩ = some (.int .i64 0) := (cell_of_row w5 _ 0 _ _ _ hQ5).trans rfl
          have r1 : w5.cell? ⟨wm.heap.size, 1, none⟩ = some (.int .i64 0) := (cell_of_row w5 _ 1 _ _ _ hQ5).trans rfl
          clear hb5 hQ5 hb6
          simp only [dval]
          go_wp2
          go_meet
          case rel => exact ⟨rfl, heap_setCell_same _ _ 1 _ _ _ (heap_setCell_same w5 _ 0 _ _ _ HQ5.out), (HB6.out.setCell (p := ⟨wm.heap.size, 0, none⟩) (Nat.le_refl _) _).setCell (p := ⟨wm.heap.size, 1, none⟩) (Nat.le_refl _) _⟩
    case rest =>
      obtain ⟨rfl, hn2, hbx⟩ := hcut
      obtain ⟨wx, rfl⟩ : ∃ wx : World, wx = wc := ⟨_, rfl⟩
      have hwx : wm.heap.size < wx.heap.size := by
        rcases Nat.lt_or_ge wm.heap.size wx.heap.size with h | h
        · exact h
        · rw [Array.getElem?_eq_none h] at hn2; cases hn2
      have hBx := HBC.out.trans (hbx.mono (by omega))
      have e0 : wx.cell? ⟨w.heap.size, 0, none⟩ = some (.int .i64 c.c0) := (cell_of_row wx _ 0 _ _ _ ((hbx.block _ hlt).trans HC.out)).trans rfl
      have e1 : wx.cell? ⟨w.heap.size, 1, none⟩ = some (.int .i64 c.c1) := (cell_of_row wx _ 1 _ _ _ ((hbx.block _ hlt).trans HC.out)).trans rfl
      have e2 : wx.cell? ⟨w.heap.size, 2, none⟩ = some (.int .i64 c.c2) := (cell_of_row wx _ 2 _ _ _ ((hbx.block _ hlt).trans HC.out)).trans rfl
      have e3 : wx.cell? ⟨w.heap.size, 3, none⟩ = some (.int .i64 c.c3) := (cell_of_row wx _ 3 _ _ _ ((hbx.block _ hlt).trans HC.out)).trans rfl
      have e4 : wx.cell? ⟨w.heap.size, 4, none⟩ = some (.slice A c.cloud.length k0) := (cell_of_row wx _ 4 _ _ _ ((hbx.block _ hlt).trans HC.out)).trans rfl
      have HBX := hid hbx
      have HN2 := hid hn2
      have HBBX := hid hBx
      clear cc0 cc1 cc2 cc3 cc4 hbx hn2 hBx
      go_wp2_with fail
      refine (HNX.out _ HBBX.out).mono ?_
      rintro e w6 ⟨rfl, hb6⟩
      have hs6 := hb6.size
      generalize nextD c i = N at *
      generalize nextE c i = X at *
      obtain ⟨n0, n1⟩ := N
      clear e0 e1 e2 e3 e4
      have hc6 := (hb6.block _ (by omega)).trans ((HBX.out.block _ hlt).trans HC.out)
      have hd6 := (hb6.block _ (by omega)).trans ((HBX.out.block _ (show w.heap.size + 1 < wm.heap.size by omega)).trans HDD.out)
      have hm6 := (hb6.block _ (by omega)).trans ((HBX.out.block _ (show w2.heap.size < wm.heap.size by omega)).trans HM.out)
      have hq6 := (hb6.block _ (by omega)).trans ((HBX.out.block _ (show w2.heap.size + 1 < wm.heap.size by omega)).trans HM2.out)
      have hn6 := (hb6.block _ hwx).trans HN2.out
      have hbb6 := HBBX.out.trans (hb6.mono (by omega))
      have hr6 := HRM.out.below (HBX.out.trans (hb6.mono (by omega))) (Nat.le_refl _)
      have hr7 := HRM2.out.below (HBX.out.trans (hb6.mono (by omega))) (Nat.le_refl _)
      simp only [dval] at *
      have HC6 := hid hc6
      have HD6 := hid hd6
      have HM6 := hid hm6
      have HQ6 := hid hq6
      have HN6 := hid hn6
      have HBB6 := hid hbb6
      have HR6 := hid hr6
      have HR7 := hid hr7
      clear hc6 hd6 hm6 hq6 hn6 hbb6 hr6 hr7 hb6
      go_upto_region 17 with fail
      obtain ⟨w7, hw7⟩ : ∃ w7 : World, w7 = w6.alloc (.cells #[.int .i64 n0, .int .i64 n1] 27) := ⟨_, rfl⟩
      rw [← hw7]
      have hs7 : w7.heap.size = w6.heap.size + 1 := by rw [hw7]; simp
      have hb7 : Below w6.heap.size w6 w7 := by rw [hw7]; exact (Below.refl _ w6).alloc (Nat.le_refl _) _
      have hx7 : w7.heap[w6.heap.size]? = some (.cells #[.int .i64 n0, .int .i64 n1] 27 (0, 0)) := by rw [hw7]; exact heap_alloc_new w6 _
      have x := (hb7.block (w.heap.size) (by omega)).trans HC6.out
      have x0 : w7.cell? ⟨w.heap.size, 0, none⟩ = some (.int .i64 c.c0) := (cell_of_row w7 _ 0 _ _ _ x).trans rfl
      have x1 : w7.cell? ⟨w.heap.size, 1, none⟩ = some (.int .i64 c.c1) := (cell_of_row w7 _ 1 _ _ _ x).trans rfl
      have x2 : w7.cell? ⟨w.heap.size, 2, none⟩ = some (.int .i64 c.c2) := (cell_of_row w7 _ 2 _ _ _ x).trans rfl
      have x3 : w7.cell? ⟨w.heap.size, 3, none⟩ = some (.int .i64 c.c3) := (cell_of_row w7 _ 3 _ _ _ x).trans rfl
      have x4 : w7.cell? ⟨w.heap.size, 4, none⟩ = some (.slice A c.cloud.length k0) := (cell_of_row w7 _ 4 _ _ _ x).trans rfl
      have y := (hb7.block (w.heap.size + 1) (by omega)).trans HD6.out
      have y0 : w7.cell? ⟨w.heap.size + 1, 0, none⟩ = some (.int .i64 d0) := (cell_of_row w7 _ 0 _ _ _ y).trans rfl
      have y1 : w7.cell? ⟨w.heap.size + 1, 1, none⟩ = some (.int .i64 d1) := (cell_of_row w7 _ 1 _ _ _ y).trans rfl
      have m := (hb7.block (w2.heap.size) (by omega)).trans HM6.out
      have m0 : w7.cell? ⟨w2.heap.size, 0, none⟩ = some (.int .i64 M.c0) := (cell_of_row w7 _ 0 _ _ _ m).trans rfl
      have m1 : w7.cell? ⟨w2.heap.size, 1, none⟩ = some (.int .i64 M.c1) := (cell_of_row w7 _ 1 _ _ _ m).trans rfl
      have m2 : w7.cell? ⟨w2.heap.size, 2, none⟩ = some (.int .i64 M.c2) := (cell_of_row w7 _ 2 _ _ _ m).trans rfl
      have m3 : w7.cell? ⟨w2.heap.size, 3, none⟩ = some (.int .i64 M.c3) := (cell_of_row w7 _ 3 _ _ _ m).trans rfl
      have m4 : w7.cell? ⟨w2.heap.size, 4, none⟩ = some (.slice AM M.cloud.length km) := (cell_of_row w7 _ 4 _ _ _ m).trans rfl
      have q := (hb7.block (w2.heap.size + 1) (by omega)).trans HQ6.out
      have q0 : w7.cell? ⟨w2.heap.size + 1, 0, none⟩ = some (.int .i64 M.c0) := (cell_of_row w7 _ 0 _ _ _ q).trans rfl
      have q1 : w7.cell? ⟨w2.heap.size + 1, 1, none⟩ = some (.int .i64 M.c1) := (cell_of_row w7 _ 1 _ _ _ q).trans rfl
      have q2 : w7.cell? ⟨w2.heap.size + 1, 2, none⟩ = some (.int .i64 M.c2) := (cell_of_row w7 _ 2 _ _ _ q).trans rfl
      have q3 : w7.cell? ⟨w2.heap.size + 1, 3, none⟩ = some (.int .i64 M.c3) := (cell_of_row w7 _ 3 _ _ _ q).trans rfl
      have q4 : w7.cell? ⟨w2.heap.size + 1, 4, none⟩ = some (.slice A2 M.cloud.length k2) := (cell_of_row w7 _ 4 _ _ _ q).trans rfl
      have nb := (hb7.block (wm.heap.size) (by omega)).trans HN6.out
      have nb0 : w7.cell? ⟨wm.heap.size, 0, none⟩ = some (.int .i64 n0) := (cell_of_row w7 _ 0 _ _ _ nb).trans rfl
      have nb1 : w7.cell? ⟨wm.heap.size, 1, none⟩ = some (.int .i64 n1) := (cell_of_row w7 _ 1 _ _ _ nb).trans rfl
      have o := hx7
      have o0 : w7.cell? ⟨w6.heap.size, 0, none⟩ = some (.int .i64 n0) := (cell_of_row w7 _ 0 _ _ _ o).trans rfl
      have o1 : w7.cell? ⟨w6.heap.size, 1, none⟩ = some (.int .i64 n1) := (cell_of_row w7 _ 1 _ _ _ o).trans rfl
      have l1 : w.heap.size < w7.heap.size := by omega
      have l2 : w.heap.size + 1 < w7.heap.size := by omega
      have l3 : w2.heap.size < w7.heap.size := by omega
      have l4 : w2.heap.size + 1 < w7.heap.size := by omega
      have l5 : wm.heap.size < w7.heap.size := by omega
      have l6 : w6.heap.size < w7.heap.size := by omega
      have hbb7 := HBB6.out.trans (hb7.mono (by omega))
      have hra := (HR6.out.below hb7 (by omega)).more (show wm.heap.size ≤ w7.heap.size by omega)
      have hrb := (HR7.out.below hb7 (by omega)).more (show wm.heap.size ≤ w7.heap.size by omega)
      have HSM := hid (fun w8 (hb : Below w7.heap.size w7 w8) => same_ints M.c0 M.c1 M.c2 M.c3 M.c0 M.c1 M.c2 M.c3 M.cloud M.cloud AM A2 km k2 w8 ((hra.below hb (Nat.le_refl _)).more hb.size) ((hrb.below hb (Nat.le_refl _)).more hb.size) HML.out HML.out)
      have hsm : sameB ⟨M.c0, M.c1, M.c2, M.c3, M.cloud⟩ ⟨M.c0, M.c1, M.c2, M.c3, M.cloud⟩ = true := (sameB_iff _ _).2 rfl
      have HBB7 := hid hbb7
      have g1 := guard_dot
      have g2 := eql_dot
      rw [hsm] at HSM
      clear hs7 x y m q nb o hb7 hx7 hw7 hbb7 hra hrb hsm HC6 HD6 HM6 HQ6 HN6 HBB6 HR6 HR7 HCK HNX HRN HC HDD HM HM2 HRM HRM2 HBC HBX HN2 HBBX
      refine region_ext (by kernel_rfl) (by kernel_rfl) (fun hext => ?_)
      repeat (any_goals ((with_reducible refine wpQuiet_step (fun K hK => ?_)); go_simp; first | (with_reducible refine hK _ ?_; clear hK K) | ((with_reducible apply Exists.intro); (with_reducible refine ⟨fun _ => ?_, hK _ ?_⟩); (first | (go_at_call 24; exact ext_call _ (by simp) (HCH.out _ (HBB7.out.trans ((Ext.below _).mono (by omega))))) | (go_at_call 25; exact ext_call _ (by simp) (HHS.out _ (HBB7.out.trans ((Ext.below _).mono (by omega))))) | (go_at_call 26; exact ext_call _ (by simp) (HRH.out _ (HBB7.out.trans ((Ext.below _).mono (by omega))))) | (go_at_call 27; exact ext_call _ (by simp) (HSM.out _ (Ext.below _)))); clear hK K) | ((with_reducible refine (if_neg ?_).mpr (hK _ ?_)); (decide); clear hK K) | (split <;> (with_reducible refine hK _ ?_; clear hK K))))
      all_goals ((with_reducible refine wpQuiet_nil ?_); clear hext; intro w1 hx1; have hb1 := ext_below hx1; clear hx1)
      go_wp2
      go_ret
      exact ⟨rfl, HBB7.out.trans (hb1.mono (by omega))⟩
end Go.Proofs.Ytogegnikpjcpdaa
/- table.context. -/
namespace Go.Proofs.Ytogegnikpjcpdaa
set_option linter.unusedVariables false
open Go.ChangeShapes Go.WideShapes Go.ChangeAt Go.RowKit

theorem Row.takeN {w : World} {B b : Nat} {xs : List Value} (h : Row w B (some ⟨b, 0, none⟩) xs) (k : Nat) : Row w B (some ⟨b, 0, none⟩) (xs.take k) := by
  rcases h with h | ⟨b', off, h1, h2, h3⟩
  · exact .inl (by rw [h]; simp)
  · refine .inr ⟨b', off, h1, h2, fun j u hu => h3 j u ?_⟩
    rw [List.getElem?_take] at hu
    split at hu
    · exact hu
    · cases hu
theorem Row.dropN {w : World} {B b : Nat} {xs : List Value} (h : Row w B (some ⟨b, 0, none⟩) xs) (k : Nat) : Row w B (some ⟨b, k, none⟩) (xs.drop k) := by
  rcases h with h | ⟨b', off, h1, h2, h3⟩
  · exact .inl (by rw [h]; simp)
  · injection h1 with h1
    injection h1 with e1 e2
    subst e1 e2
    refine .inr ⟨b, k, rfl, h2, fun j u hu => ?_⟩
    rw [List.getElem?_drop] at hu
    have := h3 (k + j) u hu
    rwa [Nat.zero_add] at this
theorem make_n (l : List (Int × Int)) (n k : Nat) (hn : n = l.length) (A : Option Addr) (w : World) (hr : Row w w.heap.size A (dcells l)) (hl : l.length ≤ 9223372036854775807) :
    Calls Try.prog 16 #[.slice A n k] w (CtxErr (makeC l) (makeE l) w) := by
  subst hn
  exact make_any l A k w hr hl

set_option maxHeartbeats 4000000 in
set_option maxRecDepth 100000 in
theorem context_tab (l : List (Int × Int)) (A : Option Addr) (c B0 : Nat) (w : World) (hown : w.ownsRow B0 27 2 (.slice A l.length c) l.length (dcells l)) (hpos : 0 < l.length) (hl : l.length ≤ 8796093022208) :
    Calls Try.prog 80 #[.slice A l.length c] w (CtxErr (ctxX l) (ctxE l) w) := by
  obtain ⟨g, rfl, hBg, hgs, hc1, hc2⟩ := own_addrS hown hpos
  have hrow := Row.of_ownS hown
  obtain ⟨N, hN⟩ : ∃ N, N = min l.length 400 := ⟨_, rfl⟩
  have hNl : N ≤ l.length := by omega
  have hN4 : N ≤ 400 := by omega
  have htd : l.take 400 = l.take N ∧ l.drop 400 = l.drop N := by
    by_cases h : l.length ≤ 400
    · rw [List.take_of_length_le h, List.drop_eq_nil_of_le h, List.take_of_length_le (by omega), List.drop_eq_nil_of_le (by omega)]; exact ⟨rfl, rfl⟩
    · rw [show N = 400 by omega]; exact ⟨rfl, rfl⟩
  have hmin : min (l.length : Int) 400 = (N : Int) := by omega
  obtain ⟨adr, hadr, hif1, hif2⟩ : ∃ adr : Addr, (N < l.length → adr = ⟨g, N * 2, none⟩) ∧ (if c = N then some (⟨g, 0, none⟩ : Addr) else some ⟨g, N * 2, none⟩) = some adr ∧ (if c = N then (⟨g, 0, none⟩ : Addr) else ⟨g, N * 2, none⟩) = adr := by
    by_cases hck : c = N
    · exact ⟨⟨g, 0, none⟩, fun h => absurd h (by omega), by rw [if_pos hck], by rw [if_pos hck]⟩
    · exact ⟨⟨g, N * 2, none⟩, fun _ => rfl, by rw [if_neg hck], by rw [if_neg hck]⟩
  have hrt : Row w w.heap.size (some ⟨g, 0, none⟩) (dcells (l.take N)) := by rw [← dcells_take]; exact hrow.takeN _
  have hrd : Row w w.heap.size (some adr) (dcells (l.drop N)) := by
    by_cases h : N < l.length
    · rw [hadr h, ← dcells_drop]; exact hrow.dropN _
    · rw [List.drop_eq_nil_of_le (by omega)]; exact Row.nil
  have HM1 := hid (fun w1 k (hb : Below w.heap.size w w1) => make_n (l.take N) N k (by rw [List.length_take]; omega) (some ⟨g, 0, none⟩) w1 (hrt.step hb) (by rw [List.length_take]; omega))
  have HM2 := hid (fun w1 k (hb : Below w.heap.size w w1) => make_n (l.drop N) (l.length - N) k (by rw [List.length_drop]) (some adr) w1 (hrd.step hb) (by rw [List.length_drop]; omega))
  have HX := hid (show ctxX l = joinX (makeC (l.take N)) (makeC (l.drop N)) by unfold ctxX; rw [htd.1, htd.2])
  have HE := hid (show ctxE l = joinE (makeC (l.take N)) (makeC (l.drop N)) by unfold ctxE; rw [htd.1, htd.2])
  have hl1 := makeC_len (l.take N)
  have hl2 := makeC_len (l.drop N)
  clear hown hrow hrt hrd htd hadr
  obtain ⟨P, hP⟩ : ∃ P, P = makeC (l.take N) := ⟨_, rfl⟩
  obtain ⟨Q, hQ⟩ : ∃ Q, Q = makeC (l.drop N) := ⟨_, rfl⟩
  rw [← hP] at HM1 HX HE hl1
  rw [← hQ] at HM2 HX HE hl2
  obtain ⟨I, hI⟩ : ∃ I, I = makeE (l.take N) := ⟨_, rfl⟩
  obtain ⟨K, hK⟩ : ∃ K, K = makeE (l.drop N) := ⟨_, rfl⟩
  rw [← hI] at HM1
  rw [← hK] at HM2
  clear hP hQ hI hK hN
  have z0 : (0 : Int) ≤ (N : Int) := by omega
  have z1 : (N : Int) ≤ (c : Int) := by omega
  have z2 : (N : Int) ≤ (l.length : Int) := by omega
  simp only [maxLen] at hc2
  go_enter Try.func80, Try.ntmps80
  go_wp2_with fail
  refine (HM1.out _ _ (by (repeat' (first | (with_reducible exact Below.refl _ _) | (with_reducible assumption) | (with_reducible refine below_drewN ?_ _) | (with_reducible refine Below.drew ?_) | (with_reducible refine Below.alloc ?_ ?_ _) | (with_reducible refine Below.setCell ?_ ?_ _) | (refine Below.trans ?_ (Below.mono (by assumption) ?_)) | go_size)))).mono ?_
  rintro e w1 ⟨A1, k1, rfl, hr1, hb1, hn1⟩
  have HBW := hid (show Below w.heap.size w w1 from (by refine Below.step' ?_ hb1; (repeat' (first | (with_reducible exact Below.refl _ _) | (with_reducible assumption) | (with_reducible refine below_drewN ?_ _) | (with_reducible refine Below.drew ?_) | (with_reducible refine Below.alloc ?_ ?_ _) | (with_reducible refine Below.setCell ?_ ?_ _) | (refine Below.trans ?_ (Below.mono (by assumption) ?_)) | go_size))))
  have HXR := hid (Blk.step (Blk.new w #[.int .i64 0, .int .i64 0, .int .i64 0, .int .i64 0, .slice none 0 0] 25) hb1)
  have HR1 := hid hr1
  clear hb1 hr1 hn1
  simp only [cval]
  go_wp2_with fail
  refine (HM2.out _ _ (HBW.out.alloc HBW.out.size _)).mono ?_
  rintro e w2 ⟨A2, k2, rfl, hr2, hb2, hn2⟩
  have hB2 : Below w1.heap.size w1 w2 := (by refine Below.step' ?_ hb2; (repeat' (first | (with_reducible exact Below.refl _ _) | (with_reducible assumption) | (with_reducible refine below_drewN ?_ _) | (with_reducible refine Below.drew ?_) | (with_reducible refine Below.alloc ?_ ?_ _) | (with_reducible refine Below.setCell ?_ ?_ _) | (refine Below.trans ?_ (Below.mono (by assumption) ?_)) | go_size)))
  have HX5 := hid (Blk.step (Blk.new w1 (cbox P A1 k1) 25) hb2)
  replace HXR := hid (HXR.out.step hB2)
  replace HR1 := hid (HR1.out.step hB2)
  replace HBW := hid (Below.step' HBW.out hB2)
  have HR2 := hid hr2
  clear hb2 hB2 hr2 hn2
  simp only [cval]
  have HJ := hid (fun w3 (hb : Below w2.heap.size w2 w3) => join_any P Q A1 A2 k1 k2 w3 (HR1.out.step hb) (by omega) (HR2.out.step hb) (by omega))
  simp only [cval] at HJ
  obtain ⟨cHX5, fHX5, sHX5, nHX5⟩ := HX5.out.all
  try simp only [cbox] at cHX5
  go_wp2_with fail
  refine (HJ.out _ ((Below.refl _ _).alloc (Nat.le_refl _) _)).mono ?_
  rintro e w3 ⟨A3, k3, rfl, hr3, hb3, hn3⟩
  have hB3 : Below w2.heap.size w2 w3 := (by refine Below.step' ?_ hb3; (repeat' (first | (with_reducible exact Below.refl _ _) | (with_reducible assumption) | (with_reducible refine below_drewN ?_ _) | (with_reducible refine Below.drew ?_) | (with_reducible refine Below.alloc ?_ ?_ _) | (with_reducible refine Below.setCell ?_ ?_ _) | (refine Below.trans ?_ (Below.mono (by assumption) ?_)) | go_size)))
  replace HXR := hid (HXR.out.step hB3)
  have hBX := Below.step' HBW.out hB3
  have hs2 := HBW.out.size
  have hR := HXR.out
  obtain ⟨⟨r0, r1, r2, r3, r4⟩, f0, f1, f2, f3, f4⟩ := hR.five
  obtain ⟨J, hJ⟩ : ∃ J, J = joinX P Q := ⟨_, rfl⟩
  rw [← hJ] at hr3 ⊢
  have HJX := hid hJ
  have hwlt : w.heap.size < (w2.alloc (.cells (cbox Q A2 k2) 25)).heap.size := by simp; omega
  have HR5 := hid (Blk.set5 hR (.int .i64 J.c0) (.int .i64 J.c1) (.int .i64 J.c2) (.int .i64 J.c3) (.slice A3 J.cloud.length k3))
  have HB5 := hid (Below.set5 hBX (Nat.le_refl _) (.int .i64 J.c0) (.int .i64 J.c1) (.int .i64 J.c2) (.int .i64 J.c3) (.slice A3 J.cloud.length k3))
  have HROW := hid (Row.set5 hr3 hn3 hwlt (.int .i64 J.c0) (.int .i64 J.c1) (.int .i64 J.c2) (.int .i64 J.c3) (.slice A3 J.cloud.length k3))
  have HN := hid (fun b off q e => Nat.le_trans (Nat.le_of_lt hwlt) (hn3 b off q e))
  clear cHX5 fHX5 sHX5 nHX5
  clear hb3 hB3 hr3 hn3 hJ hR hBX
  simp only [cval]
  go_wp2
  obtain ⟨⟨q0, q1, q2, q3, q4⟩, -⟩ := HR5.out.five
  exact bodyPost_ret (v := .tuple #[cval J A3 k3, .int .i64 (joinE P Q)]) (by simp [results, Try.results80, go_sem, q0, q1, q2, q3, q4]) rfl ⟨A3, k3, by rw [HX.out, HE.out, HJX.out], by rw [HX.out, ← HJX.out]; exact HROW.out, HB5.out, HN.out⟩
end Go.Proofs.Ytogegnikpjcpdaa
