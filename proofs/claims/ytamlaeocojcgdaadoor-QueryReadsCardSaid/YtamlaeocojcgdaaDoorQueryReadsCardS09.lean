/- QsE -/
import Derived.Test.YtamlaeocojcgdaaDoorQueryReadsCardS08
/- viewref.readStep: the kinds of plain numbers. -/
namespace Go.Proofs.YtamlaeocojcgdaaDoor
set_option linter.unusedVariables false
set_option linter.unusedSimpArgs false
open Go.ChangeShapes Go.WideShapes Go.ChangeAt Go.RowKit

theorem rstep_no {v : List UInt8} {r : List (List UInt8)} {k : Int} (hk : kindR v = k) (hr : k = 1 ∨ k = 4 ∨ k = 5 ∨ k = 6 ∨ k = 7 ∨ k = 8 ∨ k = 9) (hl : r.length ≠ (osR k).length) : stepR (v :: r) = none := by
  have h := (step_fin (r := r) hk hr).1
  rw [decide_eq_false hl, Bool.false_and] at h
  cases hs : stepR (v :: r) with
  | none => rfl
  | some s => rw [hs] at h; cases h
theorem rstep_bad {v : List UInt8} {r : List (List UInt8)} {k : Int} (hk : kindR v = k) (hr : k = 1 ∨ k = 4 ∨ k = 5 ∨ k = 6 ∨ k = 7 ∨ k = 8 ∨ k = 9) (hb : numsR r = none) : stepR (v :: r) = none := by
  have h := (step_fin (r := r) hk hr).1
  rw [hb] at h
  cases hs : stepR (v :: r) with
  | none => rfl
  | some s => rw [hs] at h; simp at h
theorem rstep_yes {v : List UInt8} {r : List (List UInt8)} {k : Int} (hk : kindR v = k) (hr : k = 1 ∨ k = 4 ∨ k = 5 ∨ k = 6 ∨ k = 7 ∨ k = 8 ∨ k = 9) {ns : List Int} (hb : numsR r = some ns) : stepR (v :: r) = mkR k 0 [] ns := by
  show (if kindR v = 2 then _ else if kindR v = 3 then _ else _) = _
  rw [hk, if_neg (by omega), if_neg (by omega), hb]
theorem WRow.tail {w : World} {ba oa : Nat} {l : List UInt8} {ws : List (List UInt8)} (h : WRow w (some ⟨ba, oa, none⟩) (l :: ws)) : WRow w (some ⟨ba, oa + 1, none⟩) ws := by
  refine ⟨fun x hx => h.1 x (List.mem_cons_of_mem _ hx), ?_⟩
  rcases h.2 with e | ⟨b, off, e, h2, h3⟩
  · simp [wcells] at e
  · obtain ⟨rfl, rfl, -⟩ := Addr.mk.inj (Option.some.inj e)
    refine .inr ⟨_, _, rfl, h2, fun j u hu => ?_⟩
    have := h3 (j + 1) u hu
    rw [show oa + 1 + j = oa + (j + 1) by omega]; exact this

set_option maxHeartbeats 8000000 in
set_option maxRecDepth 100000 in
theorem rstep_k1 (hWC : WholeC) (v : List UInt8) (r : List (List UInt8)) (A : Option Addr) (cp n : Nat) (hn : r.length = n) (w : World) (hw : WRow w A (v :: r)) (hl : n ≤ 1999) (hcp : n + 1 ≤ cp) (hv : VerbsAt w) (hk : kindR v = 1) :
    Calls Tryd.prog 23 #[.slice A (n + 1) cp] w (StepPost (v :: r) w) := by
  have HW := hid hw
  have HV := hid hv
  have HWC := hid hWC
  obtain ⟨ba, oa, rfl, hba, hc0⟩ := HW.out.get (i := 0) (by simp)
  obtain ⟨W, hW⟩ : ∃ q, q = w.alloc (.cells (stC 0 0 0 0 0 0 (.slice none 0 0)) 40) := ⟨_, rfl⟩
  have HB := hid (show Below w.heap.size w W by rw [hW]; exact (Below.refl _ _).alloc (Nat.le_refl _) _)
  have HX := hid (show Blk W w.heap.size (stC 0 0 0 0 0 0 (.slice none 0 0)) 40 by rw [hW]; exact Blk.new _ _ _)
  have hc0' : W.cell? ⟨ba, oa, none⟩ = some (.string (bstr v)) := ((bcell HB.out).1 _ _ hba).trans hc0
  have hbw : ba < W.heap.size := Nat.lt_of_lt_of_le hba HB.out.size
  have HI := hid (fun w1 (hb : Below W.heap.size W w1) => indexS_any verbsL (some ⟨0, 0, none⟩) 10 v w1 (verbs_row ((HV.out.step HB.out).step hb)) (by decide))
  have ev : verbsL.length = 10 := rfl
  rw [ev] at HI
  obtain ⟨BV, hBV⟩ : ∃ q, q = bstr v := ⟨_, rfl⟩
  rw [← hBV] at HI hc0'
  have hiv : idxR verbsL v = 1 := by
    rcases idxR_verbs v with h | h
    · omega
    · omega
  rw [hiv] at HI
  have h1n : (1 : Int) ≤ ((n + 1 : Nat) : Int) := by omega
  have HK := hid hk
  have hle : w.heap.size < W.heap.size := HX.out.lt
  clear hw hv hWC hc0 ev hBV hk
  go_enter Tryd.func23, Tryd.ntmps23
  go_upto_region 1 with fail
  rw [← hW]
  clear hW
  refine region_ext (by kernel_rfl) (by kernel_rfl) (fun hext => ?_)
  repeat (any_goals ((with_reducible refine wpQuiet_step (fun K hK => ?_)); go_simp; first | (with_reducible refine hK _ ?_; clear hK K) | ((with_reducible apply Exists.intro); (with_reducible refine ⟨fun _ => ?_, hK _ ?_⟩); ((go_at_call 37; (with_reducible refine ext_call _ ?_ (HI.out _ (Ext.below _))); simp)); clear hK K) | ((with_reducible refine (if_neg ?_).mpr (hK _ ?_)); (decide); clear hK K) | (split <;> (with_reducible refine hK _ ?_; clear hK K))))
  all_goals ((with_reducible refine wpQuiet_nil ?_); clear hext; intro w1 hx1; have hb1 := ext_below hx1; clear hx1)
  have HB1 := hid hb1
  have HX1 := hid (HX.out.step hb1)
  have hle1 : w.heap.size < w1.heap.size := HX1.out.lt
  have HB01 := hid (Below.step' HB.out hb1)
  clear hb1 hc0' HI
  go_upto_region 2 with fail
  by_cases hn1 : n = 1
  · subst hn1
    obtain ⟨x1, rfl⟩ : ∃ x1, r = [x1] := by
      match r, hn with
      | [x1], _ => exact ⟨x1, rfl⟩
    clear hn
    have hcp1 : (1 : Int) ≤ (cp : Int) := by omega
    have hcp' : (2 : Int) ≤ (cp : Int) := by omega
    have hcpn : (cp = 1) = False := eq_false (by omega)
    obtain ⟨w3, hw3⟩ : ∃ q, q = (w1.alloc (.cells #[.int .i64 0, .int .i64 2, .int .i64 5, .int .i64 3, .int .i64 5, .int .i64 3, .int .i64 3, .int .i64 2, .int .i64 3, .int .i64 4] 3)).alloc (.cells (stC 1 0 0 0 0 0 (.slice none 0 0)) 40) := ⟨_, rfl⟩
    have HB3 := hid (show Below w.heap.size w w3 by rw [hw3]; exact (HB01.out.alloc HB01.out.size _).alloc (HB01.out.alloc HB01.out.size _).size _)
    have HX3 := hid (show Blk w3 w.heap.size (stC 0 0 0 0 0 0 (.slice none 0 0)) 40 by rw [hw3]; exact (HX1.out.alloc _).alloc _)
    have HY3 := hid (show Blk w3 (w1.heap.size + 1) (stC 1 0 0 0 0 0 (.slice none 0 0)) 40 by rw [hw3]; exact Blk.new' _ _ _ (by simp))
    have HWH := hid (fun c1 => rwholes_any HWC.out [x1] (some ⟨ba, oa + 1, none⟩) c1 w3 (WRow.tail (HW.out.step HB3.out)) (by simp))
    have el : ([x1] : List (List UInt8)).length = 1 := rfl
    rw [el] at HWH
    go_wp2_with fail
    -- STOP-d1
    rw [← hw3]
    clear hw3
    refine (HWH.out _).mono ?_
    rintro e w4 ⟨NA, nn, nk, rfl, hb4, hns⟩
    have hsz3 : w1.heap.size + 1 < w3.heap.size := HY3.out.lt
    have HB4 := hid (Below.step' HB3.out hb4)
    have HX4 := hid (HX3.out.step hb4)
    have HY4 := hid (HY3.out.step hb4)
    clear hb4
    cases hnr : numsR [x1] with
    | none =>
      have HNO := hid (rstep_bad HK.out (by omega) hnr)
      clear hns hnr
      obtain ⟨cHX4, fHX4, sHX4, nHX4⟩ := HX4.out.all
      try simp only [cbox] at cHX4
      go_wp2_with fail
      -- STOP-z
      obtain ⟨wF, hwF⟩ : ∃ q, q = qset7 w4 w.heap.size (.int .i64 0) (.int .i64 0) (.int .i64 0) (.int .i64 0) (.int .i64 0) (.int .i64 0) (.slice none 0 0) := ⟨_, rfl⟩
      have HYF : Blk wF w.heap.size (stC 0 0 0 0 0 0 (.slice none 0 0)) 40 := by rw [hwF]; exact Blk.qset7 HX4.out _ _ _ _ _ _ _
      have hbF : Below w.heap.size w wF := by
        have hb0 := HB4.out
        rw [hwF]
        simp only [qset7]
        (repeat' (first | (with_reducible exact Below.refl _ _) | (with_reducible assumption) | (with_reducible refine below_drewN ?_ _) | (with_reducible refine Below.drew ?_) | (with_reducible refine Below.alloc ?_ ?_ _) | (with_reducible refine Below.setCell ?_ ?_ _) | (refine Below.trans ?_ (Below.mono (by assumption) ?_)) | go_size))
      have HWF := hid hwF
      simp only [qset7] at hwF
      rw [← hwF]
      have q0 := HYF.cells.1 0
      have q1 := HYF.cells.1 1
      have q2 := HYF.cells.1 2
      have q3 := HYF.cells.1 3
      have q4 := HYF.cells.1 4
      have q5 := HYF.cells.1 5
      have q6 := HYF.cells.1 6
      simp [stC] at q0 q1 q2 q3 q4 q5 q6
      clear hwF HYF
      refine bodyPost_ret (v := .tuple #[.agg (stC 0 0 0 0 0 0 (.slice none 0 0)), .bool false]) (by simp [results, Tryd.results23, go_sem, q0, q1, q2, q3, q4, q5, q6]) rfl ?_
      exact ⟨0, 0, 0, 0, 0, 0, none, 0, 0, by rw [HNO.out]; rfl, hbF, fun st h => by rw [HNO.out] at h; cases h⟩
    | some ns =>
      obtain ⟨rfl, hni⟩ := hns ns hnr
      obtain ⟨a, rfl⟩ : ∃ a, ns = [a] := by
        match ns, numsR_len hnr with
        | [a], _ => exact ⟨a, rfl⟩
      have HYS := hid (rstep_yes HK.out (by omega) hnr)
      obtain ⟨g, off, rfl, hg, hgc⟩ : ∃ g off, NA = some ⟨g, off, none⟩ ∧ w3.heap.size ≤ g ∧ ∀ j u, (icells' [a])[j]? = some u → w4.cell? ⟨g, off + j, none⟩ = some u := by
        rcases hni.1 with e | ⟨g, off, e, h2, h3⟩
        · simp [icells'] at e
        · exact ⟨g, off, e, hni.2 g off none e, h3⟩
      have el2 : ([a] : List Int).length = 1 := rfl
      rw [el2]
      have g0 : w4.cell? ⟨g, off, none⟩ = some (.int .i64 a) := hgc 0 _ rfl
      have hgx : (w1.heap.size + 1 = g) = False := eq_false (by omega)
      have hgx' : (g = w1.heap.size + 1) = False := eq_false (by omega)
      clear hns hnr hni hgc el el2
      obtain ⟨cHX4, fHX4, sHX4, nHX4⟩ := HX4.out.all
      try simp only [cbox] at cHX4
      obtain ⟨cHY4, fHY4, sHY4, nHY4⟩ := HY4.out.all
      try simp only [cbox] at cHY4
      go_wp2_with fail
      -- STOP-f1
      obtain ⟨wF, hwF⟩ : ∃ q, q = (qset7 (w4.setCell ⟨w1.heap.size + 1, 1, none⟩ (.int .i64 a)) w.heap.size (.int .i64 1) (.int .i64 a) (.int .i64 0) (.int .i64 0) (.int .i64 0) (.int .i64 0) (.slice none 0 0)) := ⟨_, rfl⟩
      have HYF : Blk wF w.heap.size (stC 1 a 0 0 0 0 (.slice none 0 0)) 40 := by rw [hwF]; exact Blk.qset7 (Blk.other HX4.out (a := ⟨w1.heap.size + 1, 1, none⟩) (by simp; omega) _) _ _ _ _ _ _ _
      have hbF : Below w.heap.size w wF := by
        have hb0 := HB4.out
        rw [hwF]
        simp only [qset7]
        (repeat' (first | (with_reducible exact Below.refl _ _) | (with_reducible assumption) | (with_reducible refine below_drewN ?_ _) | (with_reducible refine Below.drew ?_) | (with_reducible refine Below.alloc ?_ ?_ _) | (with_reducible refine Below.setCell ?_ ?_ _) | (refine Below.trans ?_ (Below.mono (by assumption) ?_)) | go_size))
      have HWF := hid hwF
      simp only [qset7] at hwF
      rw [← hwF]
      have q0 := HYF.cells.1 0
      have q1 := HYF.cells.1 1
      have q2 := HYF.cells.1 2
      have q3 := HYF.cells.1 3
      have q4 := HYF.cells.1 4
      have q5 := HYF.cells.1 5
      have q6 := HYF.cells.1 6
      simp [stC] at q0 q1 q2 q3 q4 q5 q6
      clear hwF HYF
      refine bodyPost_ret (v := .tuple #[.agg (stC 1 a 0 0 0 0 (.slice none 0 0)), .bool true]) (by simp [results, Tryd.results23, go_sem, q0, q1, q2, q3, q4, q5, q6]) rfl ?_
      have hy : stepR [v, x1] = some ⟨1, a, 0, 0, 0, 0, []⟩ := HYS.out.trans (by simp [mkR])
      exact ⟨1, a, 0, 0, 0, 0, none, 0, 0, by rw [hy]; rfl, hbF, fun st h => ⟨[], by rw [hy] at h; exact (Option.some.inj h).symm, rfl, NewInts.nil _ _⟩⟩
  · have tn : ((n : Int) + 1 == 2) = false := beq_eq_false_iff_ne.2 (by omega)
    have HNO := hid (rstep_no (r := r) HK.out (by omega) (by rw [hn]; exact hn1))
    obtain ⟨w2, hw2⟩ : ∃ q, q = w1.alloc (.cells #[.int .i64 0, .int .i64 2, .int .i64 5, .int .i64 3, .int .i64 5, .int .i64 3, .int .i64 3, .int .i64 2, .int .i64 3, .int .i64 4] 3) := ⟨_, rfl⟩
    have HB2 := hid (show Below w.heap.size w w2 by rw [hw2]; exact HB01.out.alloc HB01.out.size _)
    have HX2 := hid (show Blk w2 w.heap.size (stC 0 0 0 0 0 0 (.slice none 0 0)) 40 by rw [hw2]; exact HX1.out.alloc _)
    go_upto_region 3 with fail
    rw [← hw2]
    clear hw2
    obtain ⟨cHX2, fHX2, sHX2, nHX2⟩ := HX2.out.all
    try simp only [cbox] at cHX2
    go_wp2_with fail
    -- STOP-z
    obtain ⟨wF, hwF⟩ : ∃ q, q = qset7 w2 w.heap.size (.int .i64 0) (.int .i64 0) (.int .i64 0) (.int .i64 0) (.int .i64 0) (.int .i64 0) (.slice none 0 0) := ⟨_, rfl⟩
    have HYF : Blk wF w.heap.size (stC 0 0 0 0 0 0 (.slice none 0 0)) 40 := by rw [hwF]; exact Blk.qset7 HX2.out _ _ _ _ _ _ _
    have hbF : Below w.heap.size w wF := by
      have hb0 := HB2.out
      rw [hwF]
      simp only [qset7]
      (repeat' (first | (with_reducible exact Below.refl _ _) | (with_reducible assumption) | (with_reducible refine below_drewN ?_ _) | (with_reducible refine Below.drew ?_) | (with_reducible refine Below.alloc ?_ ?_ _) | (with_reducible refine Below.setCell ?_ ?_ _) | (refine Below.trans ?_ (Below.mono (by assumption) ?_)) | go_size))
    have HWF := hid hwF
    simp only [qset7] at hwF
    rw [← hwF]
    have q0 := HYF.cells.1 0
    have q1 := HYF.cells.1 1
    have q2 := HYF.cells.1 2
    have q3 := HYF.cells.1 3
    have q4 := HYF.cells.1 4
    have q5 := HYF.cells.1 5
    have q6 := HYF.cells.1 6
    simp [stC] at q0 q1 q2 q3 q4 q5 q6
    clear hwF HYF
    refine bodyPost_ret (v := .tuple #[.agg (stC 0 0 0 0 0 0 (.slice none 0 0)), .bool false]) (by simp [results, Tryd.results23, go_sem, q0, q1, q2, q3, q4, q5, q6]) rfl ?_
    exact ⟨0, 0, 0, 0, 0, 0, none, 0, 0, by rw [HNO.out]; rfl, hbF, fun st h => by rw [HNO.out] at h; cases h⟩
set_option maxHeartbeats 8000000 in
set_option maxRecDepth 100000 in
theorem rstep_k4 (hWC : WholeC) (v : List UInt8) (r : List (List UInt8)) (A : Option Addr) (cp n : Nat) (hn : r.length = n) (w : World) (hw : WRow w A (v :: r)) (hl : n ≤ 1999) (hcp : n + 1 ≤ cp) (hv : VerbsAt w) (hk : kindR v = 4) :
    Calls Tryd.prog 23 #[.slice A (n + 1) cp] w (StepPost (v :: r) w) := by
  have HW := hid hw
  have HV := hid hv
  have HWC := hid hWC
  obtain ⟨ba, oa, rfl, hba, hc0⟩ := HW.out.get (i := 0) (by simp)
  obtain ⟨W, hW⟩ : ∃ q, q = w.alloc (.cells (stC 0 0 0 0 0 0 (.slice none 0 0)) 40) := ⟨_, rfl⟩
  have HB := hid (show Below w.heap.size w W by rw [hW]; exact (Below.refl _ _).alloc (Nat.le_refl _) _)
  have HX := hid (show Blk W w.heap.size (stC 0 0 0 0 0 0 (.slice none 0 0)) 40 by rw [hW]; exact Blk.new _ _ _)
  have hc0' : W.cell? ⟨ba, oa, none⟩ = some (.string (bstr v)) := ((bcell HB.out).1 _ _ hba).trans hc0
  have hbw : ba < W.heap.size := Nat.lt_of_lt_of_le hba HB.out.size
  have HI := hid (fun w1 (hb : Below W.heap.size W w1) => indexS_any verbsL (some ⟨0, 0, none⟩) 10 v w1 (verbs_row ((HV.out.step HB.out).step hb)) (by decide))
  have ev : verbsL.length = 10 := rfl
  rw [ev] at HI
  obtain ⟨BV, hBV⟩ : ∃ q, q = bstr v := ⟨_, rfl⟩
  rw [← hBV] at HI hc0'
  have hiv : idxR verbsL v = 4 := by
    rcases idxR_verbs v with h | h
    · omega
    · omega
  rw [hiv] at HI
  have h1n : (1 : Int) ≤ ((n + 1 : Nat) : Int) := by omega
  have HK := hid hk
  have hle : w.heap.size < W.heap.size := HX.out.lt
  clear hw hv hWC hc0 ev hBV hk
  go_enter Tryd.func23, Tryd.ntmps23
  go_upto_region 1 with fail
  rw [← hW]
  clear hW
  refine region_ext (by kernel_rfl) (by kernel_rfl) (fun hext => ?_)
  repeat (any_goals ((with_reducible refine wpQuiet_step (fun K hK => ?_)); go_simp; first | (with_reducible refine hK _ ?_; clear hK K) | ((with_reducible apply Exists.intro); (with_reducible refine ⟨fun _ => ?_, hK _ ?_⟩); ((go_at_call 37; (with_reducible refine ext_call _ ?_ (HI.out _ (Ext.below _))); simp)); clear hK K) | ((with_reducible refine (if_neg ?_).mpr (hK _ ?_)); (decide); clear hK K) | (split <;> (with_reducible refine hK _ ?_; clear hK K))))
  all_goals ((with_reducible refine wpQuiet_nil ?_); clear hext; intro w1 hx1; have hb1 := ext_below hx1; clear hx1)
  have HB1 := hid hb1
  have HX1 := hid (HX.out.step hb1)
  have hle1 : w.heap.size < w1.heap.size := HX1.out.lt
  have HB01 := hid (Below.step' HB.out hb1)
  clear hb1 hc0' HI
  go_upto_region 2 with fail
  by_cases hn1 : n = 4
  · subst hn1
    obtain ⟨x1, x2, x3, x4, rfl⟩ : ∃ x1 x2 x3 x4, r = [x1, x2, x3, x4] := by
      match r, hn with
      | [x1, x2, x3, x4], _ => exact ⟨x1, x2, x3, x4, rfl⟩
    clear hn
    have hcp1 : (1 : Int) ≤ (cp : Int) := by omega
    have hcp' : (5 : Int) ≤ (cp : Int) := by omega
    have hcpn : (cp = 1) = False := eq_false (by omega)
    obtain ⟨w3, hw3⟩ : ∃ q, q = (w1.alloc (.cells #[.int .i64 0, .int .i64 2, .int .i64 5, .int .i64 3, .int .i64 5, .int .i64 3, .int .i64 3, .int .i64 2, .int .i64 3, .int .i64 4] 3)).alloc (.cells (stC 4 0 0 0 0 0 (.slice none 0 0)) 40) := ⟨_, rfl⟩
    have HB3 := hid (show Below w.heap.size w w3 by rw [hw3]; exact (HB01.out.alloc HB01.out.size _).alloc (HB01.out.alloc HB01.out.size _).size _)
    have HX3 := hid (show Blk w3 w.heap.size (stC 0 0 0 0 0 0 (.slice none 0 0)) 40 by rw [hw3]; exact (HX1.out.alloc _).alloc _)
    have HY3 := hid (show Blk w3 (w1.heap.size + 1) (stC 4 0 0 0 0 0 (.slice none 0 0)) 40 by rw [hw3]; exact Blk.new' _ _ _ (by simp))
    have HWH := hid (fun c1 => rwholes_any HWC.out [x1, x2, x3, x4] (some ⟨ba, oa + 1, none⟩) c1 w3 (WRow.tail (HW.out.step HB3.out)) (by simp))
    have el : ([x1, x2, x3, x4] : List (List UInt8)).length = 4 := rfl
    rw [el] at HWH
    go_wp2_with fail
    -- STOP-d4
    rw [← hw3]
    clear hw3
    refine (HWH.out _).mono ?_
    rintro e w4 ⟨NA, nn, nk, rfl, hb4, hns⟩
    have hsz3 : w1.heap.size + 1 < w3.heap.size := HY3.out.lt
    have HB4 := hid (Below.step' HB3.out hb4)
    have HX4 := hid (HX3.out.step hb4)
    have HY4 := hid (HY3.out.step hb4)
    clear hb4
    cases hnr : numsR [x1, x2, x3, x4] with
    | none =>
      have HNO := hid (rstep_bad HK.out (by omega) hnr)
      clear hns hnr
      obtain ⟨cHX4, fHX4, sHX4, nHX4⟩ := HX4.out.all
      try simp only [cbox] at cHX4
      go_wp2_with fail
      -- STOP-z
      obtain ⟨wF, hwF⟩ : ∃ q, q = qset7 w4 w.heap.size (.int .i64 0) (.int .i64 0) (.int .i64 0) (.int .i64 0) (.int .i64 0) (.int .i64 0) (.slice none 0 0) := ⟨_, rfl⟩
      have HYF : Blk wF w.heap.size (stC 0 0 0 0 0 0 (.slice none 0 0)) 40 := by rw [hwF]; exact Blk.qset7 HX4.out _ _ _ _ _ _ _
      have hbF : Below w.heap.size w wF := by
        have hb0 := HB4.out
        rw [hwF]
        simp only [qset7]
        (repeat' (first | (with_reducible exact Below.refl _ _) | (with_reducible assumption) | (with_reducible refine below_drewN ?_ _) | (with_reducible refine Below.drew ?_) | (with_reducible refine Below.alloc ?_ ?_ _) | (with_reducible refine Below.setCell ?_ ?_ _) | (refine Below.trans ?_ (Below.mono (by assumption) ?_)) | go_size))
      have HWF := hid hwF
      simp only [qset7] at hwF
      rw [← hwF]
      have q0 := HYF.cells.1 0
      have q1 := HYF.cells.1 1
      have q2 := HYF.cells.1 2
      have q3 := HYF.cells.1 3
      have q4 := HYF.cells.1 4
      have q5 := HYF.cells.1 5
      have q6 := HYF.cells.1 6
      simp [stC] at q0 q1 q2 q3 q4 q5 q6
      clear hwF HYF
      refine bodyPost_ret (v := .tuple #[.agg (stC 0 0 0 0 0 0 (.slice none 0 0)), .bool false]) (by simp [results, Tryd.results23, go_sem, q0, q1, q2, q3, q4, q5, q6]) rfl ?_
      exact ⟨0, 0, 0, 0, 0, 0, none, 0, 0, by rw [HNO.out]; rfl, hbF, fun st h => by rw [HNO.out] at h; cases h⟩
    | some ns =>
      obtain ⟨rfl, hni⟩ := hns ns hnr
      obtain ⟨a, b, c, d, rfl⟩ : ∃ a b c d, ns = [a, b, c, d] := by
        match ns, numsR_len hnr with
        | [a, b, c, d], _ => exact ⟨a, b, c, d, rfl⟩
      have HYS := hid (rstep_yes HK.out (by omega) hnr)
      obtain ⟨g, off, rfl, hg, hgc⟩ : ∃ g off, NA = some ⟨g, off, none⟩ ∧ w3.heap.size ≤ g ∧ ∀ j u, (icells' [a, b, c, d])[j]? = some u → w4.cell? ⟨g, off + j, none⟩ = some u := by
        rcases hni.1 with e | ⟨g, off, e, h2, h3⟩
        · simp [icells'] at e
        · exact ⟨g, off, e, hni.2 g off none e, h3⟩
      have el2 : ([a, b, c, d] : List Int).length = 4 := rfl
      rw [el2]
      have g0 : w4.cell? ⟨g, off, none⟩ = some (.int .i64 a) := hgc 0 _ rfl
      have g1 : w4.cell? ⟨g, off + 1, none⟩ = some (.int .i64 b) := hgc 1 _ rfl
      have g2 : w4.cell? ⟨g, off + 2, none⟩ = some (.int .i64 c) := hgc 2 _ rfl
      have g3 : w4.cell? ⟨g, off + 3, none⟩ = some (.int .i64 d) := hgc 3 _ rfl
      have hgx : (w1.heap.size + 1 = g) = False := eq_false (by omega)
      have hgx' : (g = w1.heap.size + 1) = False := eq_false (by omega)
      clear hns hnr hni hgc el el2
      obtain ⟨cHX4, fHX4, sHX4, nHX4⟩ := HX4.out.all
      try simp only [cbox] at cHX4
      obtain ⟨cHY4, fHY4, sHY4, nHY4⟩ := HY4.out.all
      try simp only [cbox] at cHY4
      go_wp2_with fail
      -- STOP-f4
      go_region_held3 (fun w' => w'.cell? ⟨g, off + 1, none⟩ = some (.int .i64 b) ∧ w'.cell? ⟨g, off + 2, none⟩ = some (.int .i64 c) ∧ w'.cell? ⟨g, off + 3, none⟩ = some (.int .i64 d)) ((repeat' (first | apply And.intro | (with_reducible assumption) | (with_reducible refine qsc_drew ?_) | (with_reducible refine qsc_alloc ?_) | (with_reducible refine qsc ?_ ?_)))) (fail)
      -- STOP-h4
      obtain ⟨w7, hw7⟩ : ∃ q, q = World.drew ((((w4.setCell ⟨w1.heap.size + 1, 1, none⟩ (.int .i64 a)).setCell ⟨w1.heap.size + 1, 2, none⟩ (.int .i64 b)).setCell ⟨w1.heap.size + 1, 3, none⟩ (.int .i64 c)).setCell ⟨w1.heap.size + 1, 5, none⟩ (.int .i64 d)) := ⟨_, rfl⟩
      have HX7 := hid (show Blk w7 w.heap.size (stC 0 0 0 0 0 0 (.slice none 0 0)) 40 by rw [hw7]; exact (Blk.other (Blk.other (Blk.other (Blk.other HX4.out (a := ⟨w1.heap.size + 1, 1, none⟩) (by simp; omega) _) (a := ⟨w1.heap.size + 1, 2, none⟩) (by simp; omega) _) (a := ⟨w1.heap.size + 1, 3, none⟩) (by simp; omega) _) (a := ⟨w1.heap.size + 1, 5, none⟩) (by simp; omega) _))
      have HY7 := hid (show Blk w7 (w1.heap.size + 1) (stC 4 a b c 0 d (.slice none 0 0)) 40 by rw [hw7]; exact (Blk.set (Blk.set (Blk.set (Blk.set HY4.out 1 (.int .i64 a)) 2 (.int .i64 b)) 3 (.int .i64 c)) 5 (.int .i64 d)))
      have HB7 := hid (show Below w.heap.size w w7 by rw [hw7]; exact Below.drew (Below.setCell (Below.setCell (Below.setCell (Below.setCell HB4.out (p := ⟨w1.heap.size + 1, 1, none⟩) (by simp; omega) _) (p := ⟨w1.heap.size + 1, 2, none⟩) (by simp; omega) _) (p := ⟨w1.heap.size + 1, 3, none⟩) (by simp; omega) _) (p := ⟨w1.heap.size + 1, 5, none⟩) (by simp; omega) _))
      have hsz7 : w1.heap.size + 1 < w7.heap.size := HY7.out.lt
      rw [← hw7]
      clear hw7
      try (rename_i hH; clear hH)
      clear cHX4 fHX4 sHX4 nHX4
      clear cHY4 fHY4 sHY4 nHY4
      clear g0 g1 g2 g3
      obtain ⟨cHX7, fHX7, sHX7, nHX7⟩ := HX7.out.all
      try simp only [cbox] at cHX7
      obtain ⟨cHY7, fHY7, sHY7, nHY7⟩ := HY7.out.all
      try simp only [cbox] at cHY7
      go_wp2_with fail
      -- STOP-g4
      obtain ⟨wF, hwF⟩ : ∃ q, q = (qset7 w7 w.heap.size (.int .i64 4) (.int .i64 a) (.int .i64 b) (.int .i64 c) (.int .i64 0) (.int .i64 d) (.slice none 0 0)) := ⟨_, rfl⟩
      have HYF : Blk wF w.heap.size (stC 4 a b c 0 d (.slice none 0 0)) 40 := by rw [hwF]; exact Blk.qset7 HX7.out _ _ _ _ _ _ _
      have hbF : Below w.heap.size w wF := by
        have hb0 := HB7.out
        rw [hwF]
        simp only [qset7]
        (repeat' (first | (with_reducible exact Below.refl _ _) | (with_reducible assumption) | (with_reducible refine below_drewN ?_ _) | (with_reducible refine Below.drew ?_) | (with_reducible refine Below.alloc ?_ ?_ _) | (with_reducible refine Below.setCell ?_ ?_ _) | (refine Below.trans ?_ (Below.mono (by assumption) ?_)) | go_size))
      have HWF := hid hwF
      simp only [qset7] at hwF
      rw [← hwF]
      have q0 := HYF.cells.1 0
      have q1 := HYF.cells.1 1
      have q2 := HYF.cells.1 2
      have q3 := HYF.cells.1 3
      have q4 := HYF.cells.1 4
      have q5 := HYF.cells.1 5
      have q6 := HYF.cells.1 6
      simp [stC] at q0 q1 q2 q3 q4 q5 q6
      clear hwF HYF
      refine bodyPost_ret (v := .tuple #[.agg (stC 4 a b c 0 d (.slice none 0 0)), .bool true]) (by simp [results, Tryd.results23, go_sem, q0, q1, q2, q3, q4, q5, q6]) rfl ?_
      have hy : stepR [v, x1, x2, x3, x4] = some ⟨4, a, b, c, 0, d, []⟩ := HYS.out.trans (by simp [mkR])
      exact ⟨4, a, b, c, 0, d, none, 0, 0, by rw [hy]; rfl, hbF, fun st h => ⟨[], by rw [hy] at h; exact (Option.some.inj h).symm, rfl, NewInts.nil _ _⟩⟩
  · have tn : ((n : Int) + 1 == 5) = false := beq_eq_false_iff_ne.2 (by omega)
    have HNO := hid (rstep_no (r := r) HK.out (by omega) (by rw [hn]; exact hn1))
    obtain ⟨w2, hw2⟩ : ∃ q, q = w1.alloc (.cells #[.int .i64 0, .int .i64 2, .int .i64 5, .int .i64 3, .int .i64 5, .int .i64 3, .int .i64 3, .int .i64 2, .int .i64 3, .int .i64 4] 3) := ⟨_, rfl⟩
    have HB2 := hid (show Below w.heap.size w w2 by rw [hw2]; exact HB01.out.alloc HB01.out.size _)
    have HX2 := hid (show Blk w2 w.heap.size (stC 0 0 0 0 0 0 (.slice none 0 0)) 40 by rw [hw2]; exact HX1.out.alloc _)
    go_upto_region 3 with fail
    rw [← hw2]
    clear hw2
    obtain ⟨cHX2, fHX2, sHX2, nHX2⟩ := HX2.out.all
    try simp only [cbox] at cHX2
    go_wp2_with fail
    -- STOP-z
    obtain ⟨wF, hwF⟩ : ∃ q, q = qset7 w2 w.heap.size (.int .i64 0) (.int .i64 0) (.int .i64 0) (.int .i64 0) (.int .i64 0) (.int .i64 0) (.slice none 0 0) := ⟨_, rfl⟩
    have HYF : Blk wF w.heap.size (stC 0 0 0 0 0 0 (.slice none 0 0)) 40 := by rw [hwF]; exact Blk.qset7 HX2.out _ _ _ _ _ _ _
    have hbF : Below w.heap.size w wF := by
      have hb0 := HB2.out
      rw [hwF]
      simp only [qset7]
      (repeat' (first | (with_reducible exact Below.refl _ _) | (with_reducible assumption) | (with_reducible refine below_drewN ?_ _) | (with_reducible refine Below.drew ?_) | (with_reducible refine Below.alloc ?_ ?_ _) | (with_reducible refine Below.setCell ?_ ?_ _) | (refine Below.trans ?_ (Below.mono (by assumption) ?_)) | go_size))
    have HWF := hid hwF
    simp only [qset7] at hwF
    rw [← hwF]
    have q0 := HYF.cells.1 0
    have q1 := HYF.cells.1 1
    have q2 := HYF.cells.1 2
    have q3 := HYF.cells.1 3
    have q4 := HYF.cells.1 4
    have q5 := HYF.cells.1 5
    have q6 := HYF.cells.1 6
    simp [stC] at q0 q1 q2 q3 q4 q5 q6
    clear hwF HYF
    refine bodyPost_ret (v := .tuple #[.agg (stC 0 0 0 0 0 0 (.slice none 0 0)), .bool false]) (by simp [results, Tryd.results23, go_sem, q0, q1, q2, q3, q4, q5, q6]) rfl ?_
    exact ⟨0, 0, 0, 0, 0, 0, none, 0, 0, by rw [HNO.out]; rfl, hbF, fun st h => by rw [HNO.out] at h; cases h⟩
set_option maxHeartbeats 8000000 in
set_option maxRecDepth 100000 in
theorem rstep_k5 (hWC : WholeC) (v : List UInt8) (r : List (List UInt8)) (A : Option Addr) (cp n : Nat) (hn : r.length = n) (w : World) (hw : WRow w A (v :: r)) (hl : n ≤ 1999) (hcp : n + 1 ≤ cp) (hv : VerbsAt w) (hk : kindR v = 5) :
    Calls Tryd.prog 23 #[.slice A (n + 1) cp] w (StepPost (v :: r) w) := by
  have HW := hid hw
  have HV := hid hv
  have HWC := hid hWC
  obtain ⟨ba, oa, rfl, hba, hc0⟩ := HW.out.get (i := 0) (by simp)
  obtain ⟨W, hW⟩ : ∃ q, q = w.alloc (.cells (stC 0 0 0 0 0 0 (.slice none 0 0)) 40) := ⟨_, rfl⟩
  have HB := hid (show Below w.heap.size w W by rw [hW]; exact (Below.refl _ _).alloc (Nat.le_refl _) _)
  have HX := hid (show Blk W w.heap.size (stC 0 0 0 0 0 0 (.slice none 0 0)) 40 by rw [hW]; exact Blk.new _ _ _)
  have hc0' : W.cell? ⟨ba, oa, none⟩ = some (.string (bstr v)) := ((bcell HB.out).1 _ _ hba).trans hc0
  have hbw : ba < W.heap.size := Nat.lt_of_lt_of_le hba HB.out.size
  have HI := hid (fun w1 (hb : Below W.heap.size W w1) => indexS_any verbsL (some ⟨0, 0, none⟩) 10 v w1 (verbs_row ((HV.out.step HB.out).step hb)) (by decide))
  have ev : verbsL.length = 10 := rfl
  rw [ev] at HI
  obtain ⟨BV, hBV⟩ : ∃ q, q = bstr v := ⟨_, rfl⟩
  rw [← hBV] at HI hc0'
  have hiv : idxR verbsL v = 5 := by
    rcases idxR_verbs v with h | h
    · omega
    · omega
  rw [hiv] at HI
  have h1n : (1 : Int) ≤ ((n + 1 : Nat) : Int) := by omega
  have HK := hid hk
  have hle : w.heap.size < W.heap.size := HX.out.lt
  clear hw hv hWC hc0 ev hBV hk
  go_enter Tryd.func23, Tryd.ntmps23
  go_upto_region 1 with fail
  rw [← hW]
  clear hW
  refine region_ext (by kernel_rfl) (by kernel_rfl) (fun hext => ?_)
  repeat (any_goals ((with_reducible refine wpQuiet_step (fun K hK => ?_)); go_simp; first | (with_reducible refine hK _ ?_; clear hK K) | ((with_reducible apply Exists.intro); (with_reducible refine ⟨fun _ => ?_, hK _ ?_⟩); ((go_at_call 37; (with_reducible refine ext_call _ ?_ (HI.out _ (Ext.below _))); simp)); clear hK K) | ((with_reducible refine (if_neg ?_).mpr (hK _ ?_)); (decide); clear hK K) | (split <;> (with_reducible refine hK _ ?_; clear hK K))))
  all_goals ((with_reducible refine wpQuiet_nil ?_); clear hext; intro w1 hx1; have hb1 := ext_below hx1; clear hx1)
  have HB1 := hid hb1
  have HX1 := hid (HX.out.step hb1)
  have hle1 : w.heap.size < w1.heap.size := HX1.out.lt
  have HB01 := hid (Below.step' HB.out hb1)
  clear hb1 hc0' HI
  go_upto_region 2 with fail
  by_cases hn1 : n = 2
  · subst hn1
    obtain ⟨x1, x2, rfl⟩ : ∃ x1 x2, r = [x1, x2] := by
      match r, hn with
      | [x1, x2], _ => exact ⟨x1, x2, rfl⟩
    clear hn
    have hcp1 : (1 : Int) ≤ (cp : Int) := by omega
    have hcp' : (3 : Int) ≤ (cp : Int) := by omega
    have hcpn : (cp = 1) = False := eq_false (by omega)
    obtain ⟨w3, hw3⟩ : ∃ q, q = (w1.alloc (.cells #[.int .i64 0, .int .i64 2, .int .i64 5, .int .i64 3, .int .i64 5, .int .i64 3, .int .i64 3, .int .i64 2, .int .i64 3, .int .i64 4] 3)).alloc (.cells (stC 5 0 0 0 0 0 (.slice none 0 0)) 40) := ⟨_, rfl⟩
    have HB3 := hid (show Below w.heap.size w w3 by rw [hw3]; exact (HB01.out.alloc HB01.out.size _).alloc (HB01.out.alloc HB01.out.size _).size _)
    have HX3 := hid (show Blk w3 w.heap.size (stC 0 0 0 0 0 0 (.slice none 0 0)) 40 by rw [hw3]; exact (HX1.out.alloc _).alloc _)
    have HY3 := hid (show Blk w3 (w1.heap.size + 1) (stC 5 0 0 0 0 0 (.slice none 0 0)) 40 by rw [hw3]; exact Blk.new' _ _ _ (by simp))
    have HWH := hid (fun c1 => rwholes_any HWC.out [x1, x2] (some ⟨ba, oa + 1, none⟩) c1 w3 (WRow.tail (HW.out.step HB3.out)) (by simp))
    have el : ([x1, x2] : List (List UInt8)).length = 2 := rfl
    rw [el] at HWH
    go_wp2_with fail
    -- STOP-d5
    rw [← hw3]
    clear hw3
    refine (HWH.out _).mono ?_
    rintro e w4 ⟨NA, nn, nk, rfl, hb4, hns⟩
    have hsz3 : w1.heap.size + 1 < w3.heap.size := HY3.out.lt
    have HB4 := hid (Below.step' HB3.out hb4)
    have HX4 := hid (HX3.out.step hb4)
    have HY4 := hid (HY3.out.step hb4)
    clear hb4
    cases hnr : numsR [x1, x2] with
    | none =>
      have HNO := hid (rstep_bad HK.out (by omega) hnr)
      clear hns hnr
      obtain ⟨cHX4, fHX4, sHX4, nHX4⟩ := HX4.out.all
      try simp only [cbox] at cHX4
      go_wp2_with fail
      -- STOP-z
      obtain ⟨wF, hwF⟩ : ∃ q, q = qset7 w4 w.heap.size (.int .i64 0) (.int .i64 0) (.int .i64 0) (.int .i64 0) (.int .i64 0) (.int .i64 0) (.slice none 0 0) := ⟨_, rfl⟩
      have HYF : Blk wF w.heap.size (stC 0 0 0 0 0 0 (.slice none 0 0)) 40 := by rw [hwF]; exact Blk.qset7 HX4.out _ _ _ _ _ _ _
      have hbF : Below w.heap.size w wF := by
        have hb0 := HB4.out
        rw [hwF]
        simp only [qset7]
        (repeat' (first | (with_reducible exact Below.refl _ _) | (with_reducible assumption) | (with_reducible refine below_drewN ?_ _) | (with_reducible refine Below.drew ?_) | (with_reducible refine Below.alloc ?_ ?_ _) | (with_reducible refine Below.setCell ?_ ?_ _) | (refine Below.trans ?_ (Below.mono (by assumption) ?_)) | go_size))
      have HWF := hid hwF
      simp only [qset7] at hwF
      rw [← hwF]
      have q0 := HYF.cells.1 0
      have q1 := HYF.cells.1 1
      have q2 := HYF.cells.1 2
      have q3 := HYF.cells.1 3
      have q4 := HYF.cells.1 4
      have q5 := HYF.cells.1 5
      have q6 := HYF.cells.1 6
      simp [stC] at q0 q1 q2 q3 q4 q5 q6
      clear hwF HYF
      refine bodyPost_ret (v := .tuple #[.agg (stC 0 0 0 0 0 0 (.slice none 0 0)), .bool false]) (by simp [results, Tryd.results23, go_sem, q0, q1, q2, q3, q4, q5, q6]) rfl ?_
      exact ⟨0, 0, 0, 0, 0, 0, none, 0, 0, by rw [HNO.out]; rfl, hbF, fun st h => by rw [HNO.out] at h; cases h⟩
    | some ns =>
      obtain ⟨rfl, hni⟩ := hns ns hnr
      obtain ⟨a, b, rfl⟩ : ∃ a b, ns = [a, b] := by
        match ns, numsR_len hnr with
        | [a, b], _ => exact ⟨a, b, rfl⟩
      have HYS := hid (rstep_yes HK.out (by omega) hnr)
      obtain ⟨g, off, rfl, hg, hgc⟩ : ∃ g off, NA = some ⟨g, off, none⟩ ∧ w3.heap.size ≤ g ∧ ∀ j u, (icells' [a, b])[j]? = some u → w4.cell? ⟨g, off + j, none⟩ = some u := by
        rcases hni.1 with e | ⟨g, off, e, h2, h3⟩
        · simp [icells'] at e
        · exact ⟨g, off, e, hni.2 g off none e, h3⟩
      have el2 : ([a, b] : List Int).length = 2 := rfl
      rw [el2]
      have g0 : w4.cell? ⟨g, off, none⟩ = some (.int .i64 a) := hgc 0 _ rfl
      have g1 : w4.cell? ⟨g, off + 1, none⟩ = some (.int .i64 b) := hgc 1 _ rfl
      have hgx : (w1.heap.size + 1 = g) = False := eq_false (by omega)
      have hgx' : (g = w1.heap.size + 1) = False := eq_false (by omega)
      clear hns hnr hni hgc el el2
      obtain ⟨cHX4, fHX4, sHX4, nHX4⟩ := HX4.out.all
      try simp only [cbox] at cHX4
      obtain ⟨cHY4, fHY4, sHY4, nHY4⟩ := HY4.out.all
      try simp only [cbox] at cHY4
      go_wp2_with fail
      -- STOP-f5
      obtain ⟨wF, hwF⟩ : ∃ q, q = (qset7 ((w4.setCell ⟨w1.heap.size + 1, 1, none⟩ (.int .i64 a)).setCell ⟨w1.heap.size + 1, 2, none⟩ (.int .i64 b)) w.heap.size (.int .i64 5) (.int .i64 a) (.int .i64 b) (.int .i64 0) (.int .i64 0) (.int .i64 0) (.slice none 0 0)) := ⟨_, rfl⟩
      have HYF : Blk wF w.heap.size (stC 5 a b 0 0 0 (.slice none 0 0)) 40 := by rw [hwF]; exact Blk.qset7 (Blk.other (Blk.other HX4.out (a := ⟨w1.heap.size + 1, 1, none⟩) (by simp; omega) _) (a := ⟨w1.heap.size + 1, 2, none⟩) (by simp; omega) _) _ _ _ _ _ _ _
      have hbF : Below w.heap.size w wF := by
        have hb0 := HB4.out
        rw [hwF]
        simp only [qset7]
        (repeat' (first | (with_reducible exact Below.refl _ _) | (with_reducible assumption) | (with_reducible refine below_drewN ?_ _) | (with_reducible refine Below.drew ?_) | (with_reducible refine Below.alloc ?_ ?_ _) | (with_reducible refine Below.setCell ?_ ?_ _) | (refine Below.trans ?_ (Below.mono (by assumption) ?_)) | go_size))
      have HWF := hid hwF
      simp only [qset7] at hwF
      rw [← hwF]
      have q0 := HYF.cells.1 0
      have q1 := HYF.cells.1 1
      have q2 := HYF.cells.1 2
      have q3 := HYF.cells.1 3
      have q4 := HYF.cells.1 4
      have q5 := HYF.cells.1 5
      have q6 := HYF.cells.1 6
      simp [stC] at q0 q1 q2 q3 q4 q5 q6
      clear hwF HYF
      refine bodyPost_ret (v := .tuple #[.agg (stC 5 a b 0 0 0 (.slice none 0 0)), .bool true]) (by simp [results, Tryd.results23, go_sem, q0, q1, q2, q3, q4, q5, q6]) rfl ?_
      have hy : stepR [v, x1, x2] = some ⟨5, a, b, 0, 0, 0, []⟩ := HYS.out.trans (by simp [mkR])
      exact ⟨5, a, b, 0, 0, 0, none, 0, 0, by rw [hy]; rfl, hbF, fun st h => ⟨[], by rw [hy] at h; exact (Option.some.inj h).symm, rfl, NewInts.nil _ _⟩⟩
  · have tn : ((n : Int) + 1 == 3) = false := beq_eq_false_iff_ne.2 (by omega)
    have HNO := hid (rstep_no (r := r) HK.out (by omega) (by rw [hn]; exact hn1))
    obtain ⟨w2, hw2⟩ : ∃ q, q = w1.alloc (.cells #[.int .i64 0, .int .i64 2, .int .i64 5, .int .i64 3, .int .i64 5, .int .i64 3, .int .i64 3, .int .i64 2, .int .i64 3, .int .i64 4] 3) := ⟨_, rfl⟩
    have HB2 := hid (show Below w.heap.size w w2 by rw [hw2]; exact HB01.out.alloc HB01.out.size _)
    have HX2 := hid (show Blk w2 w.heap.size (stC 0 0 0 0 0 0 (.slice none 0 0)) 40 by rw [hw2]; exact HX1.out.alloc _)
    go_upto_region 3 with fail
    rw [← hw2]
    clear hw2
    obtain ⟨cHX2, fHX2, sHX2, nHX2⟩ := HX2.out.all
    try simp only [cbox] at cHX2
    go_wp2_with fail
    -- STOP-z
    obtain ⟨wF, hwF⟩ : ∃ q, q = qset7 w2 w.heap.size (.int .i64 0) (.int .i64 0) (.int .i64 0) (.int .i64 0) (.int .i64 0) (.int .i64 0) (.slice none 0 0) := ⟨_, rfl⟩
    have HYF : Blk wF w.heap.size (stC 0 0 0 0 0 0 (.slice none 0 0)) 40 := by rw [hwF]; exact Blk.qset7 HX2.out _ _ _ _ _ _ _
    have hbF : Below w.heap.size w wF := by
      have hb0 := HB2.out
      rw [hwF]
      simp only [qset7]
      (repeat' (first | (with_reducible exact Below.refl _ _) | (with_reducible assumption) | (with_reducible refine below_drewN ?_ _) | (with_reducible refine Below.drew ?_) | (with_reducible refine Below.alloc ?_ ?_ _) | (with_reducible refine Below.setCell ?_ ?_ _) | (refine Below.trans ?_ (Below.mono (by assumption) ?_)) | go_size))
    have HWF := hid hwF
    simp only [qset7] at hwF
    rw [← hwF]
    have q0 := HYF.cells.1 0
    have q1 := HYF.cells.1 1
    have q2 := HYF.cells.1 2
    have q3 := HYF.cells.1 3
    have q4 := HYF.cells.1 4
    have q5 := HYF.cells.1 5
    have q6 := HYF.cells.1 6
    simp [stC] at q0 q1 q2 q3 q4 q5 q6
    clear hwF HYF
    refine bodyPost_ret (v := .tuple #[.agg (stC 0 0 0 0 0 0 (.slice none 0 0)), .bool false]) (by simp [results, Tryd.results23, go_sem, q0, q1, q2, q3, q4, q5, q6]) rfl ?_
    exact ⟨0, 0, 0, 0, 0, 0, none, 0, 0, by rw [HNO.out]; rfl, hbF, fun st h => by rw [HNO.out] at h; cases h⟩
set_option maxHeartbeats 8000000 in
set_option maxRecDepth 100000 in
theorem rstep_k6 (hWC : WholeC) (v : List UInt8) (r : List (List UInt8)) (A : Option Addr) (cp n : Nat) (hn : r.length = n) (w : World) (hw : WRow w A (v :: r)) (hl : n ≤ 1999) (hcp : n + 1 ≤ cp) (hv : VerbsAt w) (hk : kindR v = 6) :
    Calls Tryd.prog 23 #[.slice A (n + 1) cp] w (StepPost (v :: r) w) := by
  have HW := hid hw
  have HV := hid hv
  have HWC := hid hWC
  obtain ⟨ba, oa, rfl, hba, hc0⟩ := HW.out.get (i := 0) (by simp)
  obtain ⟨W, hW⟩ : ∃ q, q = w.alloc (.cells (stC 0 0 0 0 0 0 (.slice none 0 0)) 40) := ⟨_, rfl⟩
  have HB := hid (show Below w.heap.size w W by rw [hW]; exact (Below.refl _ _).alloc (Nat.le_refl _) _)
  have HX := hid (show Blk W w.heap.size (stC 0 0 0 0 0 0 (.slice none 0 0)) 40 by rw [hW]; exact Blk.new _ _ _)
  have hc0' : W.cell? ⟨ba, oa, none⟩ = some (.string (bstr v)) := ((bcell HB.out).1 _ _ hba).trans hc0
  have hbw : ba < W.heap.size := Nat.lt_of_lt_of_le hba HB.out.size
  have HI := hid (fun w1 (hb : Below W.heap.size W w1) => indexS_any verbsL (some ⟨0, 0, none⟩) 10 v w1 (verbs_row ((HV.out.step HB.out).step hb)) (by decide))
  have ev : verbsL.length = 10 := rfl
  rw [ev] at HI
  obtain ⟨BV, hBV⟩ : ∃ q, q = bstr v := ⟨_, rfl⟩
  rw [← hBV] at HI hc0'
  have hiv : idxR verbsL v = 6 := by
    rcases idxR_verbs v with h | h
    · omega
    · omega
  rw [hiv] at HI
  have h1n : (1 : Int) ≤ ((n + 1 : Nat) : Int) := by omega
  have HK := hid hk
  have hle : w.heap.size < W.heap.size := HX.out.lt
  clear hw hv hWC hc0 ev hBV hk
  go_enter Tryd.func23, Tryd.ntmps23
  go_upto_region 1 with fail
  rw [← hW]
  clear hW
  refine region_ext (by kernel_rfl) (by kernel_rfl) (fun hext => ?_)
  repeat (any_goals ((with_reducible refine wpQuiet_step (fun K hK => ?_)); go_simp; first | (with_reducible refine hK _ ?_; clear hK K) | ((with_reducible apply Exists.intro); (with_reducible refine ⟨fun _ => ?_, hK _ ?_⟩); ((go_at_call 37; (with_reducible refine ext_call _ ?_ (HI.out _ (Ext.below _))); simp)); clear hK K) | ((with_reducible refine (if_neg ?_).mpr (hK _ ?_)); (decide); clear hK K) | (split <;> (with_reducible refine hK _ ?_; clear hK K))))
  all_goals ((with_reducible refine wpQuiet_nil ?_); clear hext; intro w1 hx1; have hb1 := ext_below hx1; clear hx1)
  have HB1 := hid hb1
  have HX1 := hid (HX.out.step hb1)
  have hle1 : w.heap.size < w1.heap.size := HX1.out.lt
  have HB01 := hid (Below.step' HB.out hb1)
  clear hb1 hc0' HI
  go_upto_region 2 with fail
  by_cases hn1 : n = 2
  · subst hn1
    obtain ⟨x1, x2, rfl⟩ : ∃ x1 x2, r = [x1, x2] := by
      match r, hn with
      | [x1, x2], _ => exact ⟨x1, x2, rfl⟩
    clear hn
    have hcp1 : (1 : Int) ≤ (cp : Int) := by omega
    have hcp' : (3 : Int) ≤ (cp : Int) := by omega
    have hcpn : (cp = 1) = False := eq_false (by omega)
    obtain ⟨w3, hw3⟩ : ∃ q, q = (w1.alloc (.cells #[.int .i64 0, .int .i64 2, .int .i64 5, .int .i64 3, .int .i64 5, .int .i64 3, .int .i64 3, .int .i64 2, .int .i64 3, .int .i64 4] 3)).alloc (.cells (stC 6 0 0 0 0 0 (.slice none 0 0)) 40) := ⟨_, rfl⟩
    have HB3 := hid (show Below w.heap.size w w3 by rw [hw3]; exact (HB01.out.alloc HB01.out.size _).alloc (HB01.out.alloc HB01.out.size _).size _)
    have HX3 := hid (show Blk w3 w.heap.size (stC 0 0 0 0 0 0 (.slice none 0 0)) 40 by rw [hw3]; exact (HX1.out.alloc _).alloc _)
    have HY3 := hid (show Blk w3 (w1.heap.size + 1) (stC 6 0 0 0 0 0 (.slice none 0 0)) 40 by rw [hw3]; exact Blk.new' _ _ _ (by simp))
    have HWH := hid (fun c1 => rwholes_any HWC.out [x1, x2] (some ⟨ba, oa + 1, none⟩) c1 w3 (WRow.tail (HW.out.step HB3.out)) (by simp))
    have el : ([x1, x2] : List (List UInt8)).length = 2 := rfl
    rw [el] at HWH
    go_wp2_with fail
    -- STOP-d6
    rw [← hw3]
    clear hw3
    refine (HWH.out _).mono ?_
    rintro e w4 ⟨NA, nn, nk, rfl, hb4, hns⟩
    have hsz3 : w1.heap.size + 1 < w3.heap.size := HY3.out.lt
    have HB4 := hid (Below.step' HB3.out hb4)
    have HX4 := hid (HX3.out.step hb4)
    have HY4 := hid (HY3.out.step hb4)
    clear hb4
    cases hnr : numsR [x1, x2] with
    | none =>
      have HNO := hid (rstep_bad HK.out (by omega) hnr)
      clear hns hnr
      obtain ⟨cHX4, fHX4, sHX4, nHX4⟩ := HX4.out.all
      try simp only [cbox] at cHX4
      go_wp2_with fail
      -- STOP-z
      obtain ⟨wF, hwF⟩ : ∃ q, q = qset7 w4 w.heap.size (.int .i64 0) (.int .i64 0) (.int .i64 0) (.int .i64 0) (.int .i64 0) (.int .i64 0) (.slice none 0 0) := ⟨_, rfl⟩
      have HYF : Blk wF w.heap.size (stC 0 0 0 0 0 0 (.slice none 0 0)) 40 := by rw [hwF]; exact Blk.qset7 HX4.out _ _ _ _ _ _ _
      have hbF : Below w.heap.size w wF := by
        have hb0 := HB4.out
        rw [hwF]
        simp only [qset7]
        (repeat' (first | (with_reducible exact Below.refl _ _) | (with_reducible assumption) | (with_reducible refine below_drewN ?_ _) | (with_reducible refine Below.drew ?_) | (with_reducible refine Below.alloc ?_ ?_ _) | (with_reducible refine Below.setCell ?_ ?_ _) | (refine Below.trans ?_ (Below.mono (by assumption) ?_)) | go_size))
      have HWF := hid hwF
      simp only [qset7] at hwF
      rw [← hwF]
      have q0 := HYF.cells.1 0
      have q1 := HYF.cells.1 1
      have q2 := HYF.cells.1 2
      have q3 := HYF.cells.1 3
      have q4 := HYF.cells.1 4
      have q5 := HYF.cells.1 5
      have q6 := HYF.cells.1 6
      simp [stC] at q0 q1 q2 q3 q4 q5 q6
      clear hwF HYF
      refine bodyPost_ret (v := .tuple #[.agg (stC 0 0 0 0 0 0 (.slice none 0 0)), .bool false]) (by simp [results, Tryd.results23, go_sem, q0, q1, q2, q3, q4, q5, q6]) rfl ?_
      exact ⟨0, 0, 0, 0, 0, 0, none, 0, 0, by rw [HNO.out]; rfl, hbF, fun st h => by rw [HNO.out] at h; cases h⟩
    | some ns =>
      obtain ⟨rfl, hni⟩ := hns ns hnr
      obtain ⟨a, b, rfl⟩ : ∃ a b, ns = [a, b] := by
        match ns, numsR_len hnr with
        | [a, b], _ => exact ⟨a, b, rfl⟩
      have HYS := hid (rstep_yes HK.out (by omega) hnr)
      obtain ⟨g, off, rfl, hg, hgc⟩ : ∃ g off, NA = some ⟨g, off, none⟩ ∧ w3.heap.size ≤ g ∧ ∀ j u, (icells' [a, b])[j]? = some u → w4.cell? ⟨g, off + j, none⟩ = some u := by
        rcases hni.1 with e | ⟨g, off, e, h2, h3⟩
        · simp [icells'] at e
        · exact ⟨g, off, e, hni.2 g off none e, h3⟩
      have el2 : ([a, b] : List Int).length = 2 := rfl
      rw [el2]
      have g0 : w4.cell? ⟨g, off, none⟩ = some (.int .i64 a) := hgc 0 _ rfl
      have g1 : w4.cell? ⟨g, off + 1, none⟩ = some (.int .i64 b) := hgc 1 _ rfl
      have hgx : (w1.heap.size + 1 = g) = False := eq_false (by omega)
      have hgx' : (g = w1.heap.size + 1) = False := eq_false (by omega)
      clear hns hnr hni hgc el el2
      obtain ⟨cHX4, fHX4, sHX4, nHX4⟩ := HX4.out.all
      try simp only [cbox] at cHX4
      obtain ⟨cHY4, fHY4, sHY4, nHY4⟩ := HY4.out.all
      try simp only [cbox] at cHY4
      go_wp2_with fail
      -- STOP-f6
      obtain ⟨wF, hwF⟩ : ∃ q, q = (qset7 ((w4.setCell ⟨w1.heap.size + 1, 1, none⟩ (.int .i64 a)).setCell ⟨w1.heap.size + 1, 2, none⟩ (.int .i64 b)) w.heap.size (.int .i64 6) (.int .i64 a) (.int .i64 b) (.int .i64 0) (.int .i64 0) (.int .i64 0) (.slice none 0 0)) := ⟨_, rfl⟩
      have HYF : Blk wF w.heap.size (stC 6 a b 0 0 0 (.slice none 0 0)) 40 := by rw [hwF]; exact Blk.qset7 (Blk.other (Blk.other HX4.out (a := ⟨w1.heap.size + 1, 1, none⟩) (by simp; omega) _) (a := ⟨w1.heap.size + 1, 2, none⟩) (by simp; omega) _) _ _ _ _ _ _ _
      have hbF : Below w.heap.size w wF := by
        have hb0 := HB4.out
        rw [hwF]
        simp only [qset7]
        (repeat' (first | (with_reducible exact Below.refl _ _) | (with_reducible assumption) | (with_reducible refine below_drewN ?_ _) | (with_reducible refine Below.drew ?_) | (with_reducible refine Below.alloc ?_ ?_ _) | (with_reducible refine Below.setCell ?_ ?_ _) | (refine Below.trans ?_ (Below.mono (by assumption) ?_)) | go_size))
      have HWF := hid hwF
      simp only [qset7] at hwF
      rw [← hwF]
      have q0 := HYF.cells.1 0
      have q1 := HYF.cells.1 1
      have q2 := HYF.cells.1 2
      have q3 := HYF.cells.1 3
      have q4 := HYF.cells.1 4
      have q5 := HYF.cells.1 5
      have q6 := HYF.cells.1 6
      simp [stC] at q0 q1 q2 q3 q4 q5 q6
      clear hwF HYF
      refine bodyPost_ret (v := .tuple #[.agg (stC 6 a b 0 0 0 (.slice none 0 0)), .bool true]) (by simp [results, Tryd.results23, go_sem, q0, q1, q2, q3, q4, q5, q6]) rfl ?_
      have hy : stepR [v, x1, x2] = some ⟨6, a, b, 0, 0, 0, []⟩ := HYS.out.trans (by simp [mkR])
      exact ⟨6, a, b, 0, 0, 0, none, 0, 0, by rw [hy]; rfl, hbF, fun st h => ⟨[], by rw [hy] at h; exact (Option.some.inj h).symm, rfl, NewInts.nil _ _⟩⟩
  · have tn : ((n : Int) + 1 == 3) = false := beq_eq_false_iff_ne.2 (by omega)
    have HNO := hid (rstep_no (r := r) HK.out (by omega) (by rw [hn]; exact hn1))
    obtain ⟨w2, hw2⟩ : ∃ q, q = w1.alloc (.cells #[.int .i64 0, .int .i64 2, .int .i64 5, .int .i64 3, .int .i64 5, .int .i64 3, .int .i64 3, .int .i64 2, .int .i64 3, .int .i64 4] 3) := ⟨_, rfl⟩
    have HB2 := hid (show Below w.heap.size w w2 by rw [hw2]; exact HB01.out.alloc HB01.out.size _)
    have HX2 := hid (show Blk w2 w.heap.size (stC 0 0 0 0 0 0 (.slice none 0 0)) 40 by rw [hw2]; exact HX1.out.alloc _)
    go_upto_region 3 with fail
    rw [← hw2]
    clear hw2
    obtain ⟨cHX2, fHX2, sHX2, nHX2⟩ := HX2.out.all
    try simp only [cbox] at cHX2
    go_wp2_with fail
    -- STOP-z
    obtain ⟨wF, hwF⟩ : ∃ q, q = qset7 w2 w.heap.size (.int .i64 0) (.int .i64 0) (.int .i64 0) (.int .i64 0) (.int .i64 0) (.int .i64 0) (.slice none 0 0) := ⟨_, rfl⟩
    have HYF : Blk wF w.heap.size (stC 0 0 0 0 0 0 (.slice none 0 0)) 40 := by rw [hwF]; exact Blk.qset7 HX2.out _ _ _ _ _ _ _
    have hbF : Below w.heap.size w wF := by
      have hb0 := HB2.out
      rw [hwF]
      simp only [qset7]
      (repeat' (first | (with_reducible exact Below.refl _ _) | (with_reducible assumption) | (with_reducible refine below_drewN ?_ _) | (with_reducible refine Below.drew ?_) | (with_reducible refine Below.alloc ?_ ?_ _) | (with_reducible refine Below.setCell ?_ ?_ _) | (refine Below.trans ?_ (Below.mono (by assumption) ?_)) | go_size))
    have HWF := hid hwF
    simp only [qset7] at hwF
    rw [← hwF]
    have q0 := HYF.cells.1 0
    have q1 := HYF.cells.1 1
    have q2 := HYF.cells.1 2
    have q3 := HYF.cells.1 3
    have q4 := HYF.cells.1 4
    have q5 := HYF.cells.1 5
    have q6 := HYF.cells.1 6
    simp [stC] at q0 q1 q2 q3 q4 q5 q6
    clear hwF HYF
    refine bodyPost_ret (v := .tuple #[.agg (stC 0 0 0 0 0 0 (.slice none 0 0)), .bool false]) (by simp [results, Tryd.results23, go_sem, q0, q1, q2, q3, q4, q5, q6]) rfl ?_
    exact ⟨0, 0, 0, 0, 0, 0, none, 0, 0, by rw [HNO.out]; rfl, hbF, fun st h => by rw [HNO.out] at h; cases h⟩
set_option maxHeartbeats 8000000 in
set_option maxRecDepth 100000 in
theorem rstep_k7 (hWC : WholeC) (v : List UInt8) (r : List (List UInt8)) (A : Option Addr) (cp n : Nat) (hn : r.length = n) (w : World) (hw : WRow w A (v :: r)) (hl : n ≤ 1999) (hcp : n + 1 ≤ cp) (hv : VerbsAt w) (hk : kindR v = 7) :
    Calls Tryd.prog 23 #[.slice A (n + 1) cp] w (StepPost (v :: r) w) := by
  have HW := hid hw
  have HV := hid hv
  have HWC := hid hWC
  obtain ⟨ba, oa, rfl, hba, hc0⟩ := HW.out.get (i := 0) (by simp)
  obtain ⟨W, hW⟩ : ∃ q, q = w.alloc (.cells (stC 0 0 0 0 0 0 (.slice none 0 0)) 40) := ⟨_, rfl⟩
  have HB := hid (show Below w.heap.size w W by rw [hW]; exact (Below.refl _ _).alloc (Nat.le_refl _) _)
  have HX := hid (show Blk W w.heap.size (stC 0 0 0 0 0 0 (.slice none 0 0)) 40 by rw [hW]; exact Blk.new _ _ _)
  have hc0' : W.cell? ⟨ba, oa, none⟩ = some (.string (bstr v)) := ((bcell HB.out).1 _ _ hba).trans hc0
  have hbw : ba < W.heap.size := Nat.lt_of_lt_of_le hba HB.out.size
  have HI := hid (fun w1 (hb : Below W.heap.size W w1) => indexS_any verbsL (some ⟨0, 0, none⟩) 10 v w1 (verbs_row ((HV.out.step HB.out).step hb)) (by decide))
  have ev : verbsL.length = 10 := rfl
  rw [ev] at HI
  obtain ⟨BV, hBV⟩ : ∃ q, q = bstr v := ⟨_, rfl⟩
  rw [← hBV] at HI hc0'
  have hiv : idxR verbsL v = 7 := by
    rcases idxR_verbs v with h | h
    · omega
    · omega
  rw [hiv] at HI
  have h1n : (1 : Int) ≤ ((n + 1 : Nat) : Int) := by omega
  have HK := hid hk
  have hle : w.heap.size < W.heap.size := HX.out.lt
  clear hw hv hWC hc0 ev hBV hk
  go_enter Tryd.func23, Tryd.ntmps23
  go_upto_region 1 with fail
  rw [← hW]
  clear hW
  refine region_ext (by kernel_rfl) (by kernel_rfl) (fun hext => ?_)
  repeat (any_goals ((with_reducible refine wpQuiet_step (fun K hK => ?_)); go_simp; first | (with_reducible refine hK _ ?_; clear hK K) | ((with_reducible apply Exists.intro); (with_reducible refine ⟨fun _ => ?_, hK _ ?_⟩); ((go_at_call 37; (with_reducible refine ext_call _ ?_ (HI.out _ (Ext.below _))); simp)); clear hK K) | ((with_reducible refine (if_neg ?_).mpr (hK _ ?_)); (decide); clear hK K) | (split <;> (with_reducible refine hK _ ?_; clear hK K))))
  all_goals ((with_reducible refine wpQuiet_nil ?_); clear hext; intro w1 hx1; have hb1 := ext_below hx1; clear hx1)
  have HB1 := hid hb1
  have HX1 := hid (HX.out.step hb1)
  have hle1 : w.heap.size < w1.heap.size := HX1.out.lt
  have HB01 := hid (Below.step' HB.out hb1)
  clear hb1 hc0' HI
  go_upto_region 2 with fail
  by_cases hn1 : n = 1
  · subst hn1
    obtain ⟨x1, rfl⟩ : ∃ x1, r = [x1] := by
      match r, hn with
      | [x1], _ => exact ⟨x1, rfl⟩
    clear hn
    have hcp1 : (1 : Int) ≤ (cp : Int) := by omega
    have hcp' : (2 : Int) ≤ (cp : Int) := by omega
    have hcpn : (cp = 1) = False := eq_false (by omega)
    obtain ⟨w3, hw3⟩ : ∃ q, q = (w1.alloc (.cells #[.int .i64 0, .int .i64 2, .int .i64 5, .int .i64 3, .int .i64 5, .int .i64 3, .int .i64 3, .int .i64 2, .int .i64 3, .int .i64 4] 3)).alloc (.cells (stC 7 0 0 0 0 0 (.slice none 0 0)) 40) := ⟨_, rfl⟩
    have HB3 := hid (show Below w.heap.size w w3 by rw [hw3]; exact (HB01.out.alloc HB01.out.size _).alloc (HB01.out.alloc HB01.out.size _).size _)
    have HX3 := hid (show Blk w3 w.heap.size (stC 0 0 0 0 0 0 (.slice none 0 0)) 40 by rw [hw3]; exact (HX1.out.alloc _).alloc _)
    have HY3 := hid (show Blk w3 (w1.heap.size + 1) (stC 7 0 0 0 0 0 (.slice none 0 0)) 40 by rw [hw3]; exact Blk.new' _ _ _ (by simp))
    have HWH := hid (fun c1 => rwholes_any HWC.out [x1] (some ⟨ba, oa + 1, none⟩) c1 w3 (WRow.tail (HW.out.step HB3.out)) (by simp))
    have el : ([x1] : List (List UInt8)).length = 1 := rfl
    rw [el] at HWH
    go_wp2_with fail
    -- STOP-d7
    rw [← hw3]
    clear hw3
    refine (HWH.out _).mono ?_
    rintro e w4 ⟨NA, nn, nk, rfl, hb4, hns⟩
    have hsz3 : w1.heap.size + 1 < w3.heap.size := HY3.out.lt
    have HB4 := hid (Below.step' HB3.out hb4)
    have HX4 := hid (HX3.out.step hb4)
    have HY4 := hid (HY3.out.step hb4)
    clear hb4
    cases hnr : numsR [x1] with
    | none =>
      have HNO := hid (rstep_bad HK.out (by omega) hnr)
      clear hns hnr
      obtain ⟨cHX4, fHX4, sHX4, nHX4⟩ := HX4.out.all
      try simp only [cbox] at cHX4
      go_wp2_with fail
      -- STOP-z
      obtain ⟨wF, hwF⟩ : ∃ q, q = qset7 w4 w.heap.size (.int .i64 0) (.int .i64 0) (.int .i64 0) (.int .i64 0) (.int .i64 0) (.int .i64 0) (.slice none 0 0) := ⟨_, rfl⟩
      have HYF : Blk wF w.heap.size (stC 0 0 0 0 0 0 (.slice none 0 0)) 40 := by rw [hwF]; exact Blk.qset7 HX4.out _ _ _ _ _ _ _
      have hbF : Below w.heap.size w wF := by
        have hb0 := HB4.out
        rw [hwF]
        simp only [qset7]
        (repeat' (first | (with_reducible exact Below.refl _ _) | (with_reducible assumption) | (with_reducible refine below_drewN ?_ _) | (with_reducible refine Below.drew ?_) | (with_reducible refine Below.alloc ?_ ?_ _) | (with_reducible refine Below.setCell ?_ ?_ _) | (refine Below.trans ?_ (Below.mono (by assumption) ?_)) | go_size))
      have HWF := hid hwF
      simp only [qset7] at hwF
      rw [← hwF]
      have q0 := HYF.cells.1 0
      have q1 := HYF.cells.1 1
      have q2 := HYF.cells.1 2
      have q3 := HYF.cells.1 3
      have q4 := HYF.cells.1 4
      have q5 := HYF.cells.1 5
      have q6 := HYF.cells.1 6
      simp [stC] at q0 q1 q2 q3 q4 q5 q6
      clear hwF HYF
      refine bodyPost_ret (v := .tuple #[.agg (stC 0 0 0 0 0 0 (.slice none 0 0)), .bool false]) (by simp [results, Tryd.results23, go_sem, q0, q1, q2, q3, q4, q5, q6]) rfl ?_
      exact ⟨0, 0, 0, 0, 0, 0, none, 0, 0, by rw [HNO.out]; rfl, hbF, fun st h => by rw [HNO.out] at h; cases h⟩
    | some ns =>
      obtain ⟨rfl, hni⟩ := hns ns hnr
      obtain ⟨a, rfl⟩ : ∃ a, ns = [a] := by
        match ns, numsR_len hnr with
        | [a], _ => exact ⟨a, rfl⟩
      have HYS := hid (rstep_yes HK.out (by omega) hnr)
      obtain ⟨g, off, rfl, hg, hgc⟩ : ∃ g off, NA = some ⟨g, off, none⟩ ∧ w3.heap.size ≤ g ∧ ∀ j u, (icells' [a])[j]? = some u → w4.cell? ⟨g, off + j, none⟩ = some u := by
        rcases hni.1 with e | ⟨g, off, e, h2, h3⟩
        · simp [icells'] at e
        · exact ⟨g, off, e, hni.2 g off none e, h3⟩
      have el2 : ([a] : List Int).length = 1 := rfl
      rw [el2]
      have g0 : w4.cell? ⟨g, off, none⟩ = some (.int .i64 a) := hgc 0 _ rfl
      have hgx : (w1.heap.size + 1 = g) = False := eq_false (by omega)
      have hgx' : (g = w1.heap.size + 1) = False := eq_false (by omega)
      clear hns hnr hni hgc el el2
      obtain ⟨cHX4, fHX4, sHX4, nHX4⟩ := HX4.out.all
      try simp only [cbox] at cHX4
      obtain ⟨cHY4, fHY4, sHY4, nHY4⟩ := HY4.out.all
      try simp only [cbox] at cHY4
      go_wp2_with fail
      -- STOP-f7
      obtain ⟨wF, hwF⟩ : ∃ q, q = (qset7 (w4.setCell ⟨w1.heap.size + 1, 1, none⟩ (.int .i64 a)) w.heap.size (.int .i64 7) (.int .i64 a) (.int .i64 0) (.int .i64 0) (.int .i64 0) (.int .i64 0) (.slice none 0 0)) := ⟨_, rfl⟩
      have HYF : Blk wF w.heap.size (stC 7 a 0 0 0 0 (.slice none 0 0)) 40 := by rw [hwF]; exact Blk.qset7 (Blk.other HX4.out (a := ⟨w1.heap.size + 1, 1, none⟩) (by simp; omega) _) _ _ _ _ _ _ _
      have hbF : Below w.heap.size w wF := by
        have hb0 := HB4.out
        rw [hwF]
        simp only [qset7]
        (repeat' (first | (with_reducible exact Below.refl _ _) | (with_reducible assumption) | (with_reducible refine below_drewN ?_ _) | (with_reducible refine Below.drew ?_) | (with_reducible refine Below.alloc ?_ ?_ _) | (with_reducible refine Below.setCell ?_ ?_ _) | (refine Below.trans ?_ (Below.mono (by assumption) ?_)) | go_size))
      have HWF := hid hwF
      simp only [qset7] at hwF
      rw [← hwF]
      have q0 := HYF.cells.1 0
      have q1 := HYF.cells.1 1
      have q2 := HYF.cells.1 2
      have q3 := HYF.cells.1 3
      have q4 := HYF.cells.1 4
      have q5 := HYF.cells.1 5
      have q6 := HYF.cells.1 6
      simp [stC] at q0 q1 q2 q3 q4 q5 q6
      clear hwF HYF
      refine bodyPost_ret (v := .tuple #[.agg (stC 7 a 0 0 0 0 (.slice none 0 0)), .bool true]) (by simp [results, Tryd.results23, go_sem, q0, q1, q2, q3, q4, q5, q6]) rfl ?_
      have hy : stepR [v, x1] = some ⟨7, a, 0, 0, 0, 0, []⟩ := HYS.out.trans (by simp [mkR])
      exact ⟨7, a, 0, 0, 0, 0, none, 0, 0, by rw [hy]; rfl, hbF, fun st h => ⟨[], by rw [hy] at h; exact (Option.some.inj h).symm, rfl, NewInts.nil _ _⟩⟩
  · have tn : ((n : Int) + 1 == 2) = false := beq_eq_false_iff_ne.2 (by omega)
    have HNO := hid (rstep_no (r := r) HK.out (by omega) (by rw [hn]; exact hn1))
    obtain ⟨w2, hw2⟩ : ∃ q, q = w1.alloc (.cells #[.int .i64 0, .int .i64 2, .int .i64 5, .int .i64 3, .int .i64 5, .int .i64 3, .int .i64 3, .int .i64 2, .int .i64 3, .int .i64 4] 3) := ⟨_, rfl⟩
    have HB2 := hid (show Below w.heap.size w w2 by rw [hw2]; exact HB01.out.alloc HB01.out.size _)
    have HX2 := hid (show Blk w2 w.heap.size (stC 0 0 0 0 0 0 (.slice none 0 0)) 40 by rw [hw2]; exact HX1.out.alloc _)
    go_upto_region 3 with fail
    rw [← hw2]
    clear hw2
    obtain ⟨cHX2, fHX2, sHX2, nHX2⟩ := HX2.out.all
    try simp only [cbox] at cHX2
    go_wp2_with fail
    -- STOP-z
    obtain ⟨wF, hwF⟩ : ∃ q, q = qset7 w2 w.heap.size (.int .i64 0) (.int .i64 0) (.int .i64 0) (.int .i64 0) (.int .i64 0) (.int .i64 0) (.slice none 0 0) := ⟨_, rfl⟩
    have HYF : Blk wF w.heap.size (stC 0 0 0 0 0 0 (.slice none 0 0)) 40 := by rw [hwF]; exact Blk.qset7 HX2.out _ _ _ _ _ _ _
    have hbF : Below w.heap.size w wF := by
      have hb0 := HB2.out
      rw [hwF]
      simp only [qset7]
      (repeat' (first | (with_reducible exact Below.refl _ _) | (with_reducible assumption) | (with_reducible refine below_drewN ?_ _) | (with_reducible refine Below.drew ?_) | (with_reducible refine Below.alloc ?_ ?_ _) | (with_reducible refine Below.setCell ?_ ?_ _) | (refine Below.trans ?_ (Below.mono (by assumption) ?_)) | go_size))
    have HWF := hid hwF
    simp only [qset7] at hwF
    rw [← hwF]
    have q0 := HYF.cells.1 0
    have q1 := HYF.cells.1 1
    have q2 := HYF.cells.1 2
    have q3 := HYF.cells.1 3
    have q4 := HYF.cells.1 4
    have q5 := HYF.cells.1 5
    have q6 := HYF.cells.1 6
    simp [stC] at q0 q1 q2 q3 q4 q5 q6
    clear hwF HYF
    refine bodyPost_ret (v := .tuple #[.agg (stC 0 0 0 0 0 0 (.slice none 0 0)), .bool false]) (by simp [results, Tryd.results23, go_sem, q0, q1, q2, q3, q4, q5, q6]) rfl ?_
    exact ⟨0, 0, 0, 0, 0, 0, none, 0, 0, by rw [HNO.out]; rfl, hbF, fun st h => by rw [HNO.out] at h; cases h⟩
set_option maxHeartbeats 8000000 in
set_option maxRecDepth 100000 in
theorem rstep_k8 (hWC : WholeC) (v : List UInt8) (r : List (List UInt8)) (A : Option Addr) (cp n : Nat) (hn : r.length = n) (w : World) (hw : WRow w A (v :: r)) (hl : n ≤ 1999) (hcp : n + 1 ≤ cp) (hv : VerbsAt w) (hk : kindR v = 8) :
    Calls Tryd.prog 23 #[.slice A (n + 1) cp] w (StepPost (v :: r) w) := by
  have HW := hid hw
  have HV := hid hv
  have HWC := hid hWC
  obtain ⟨ba, oa, rfl, hba, hc0⟩ := HW.out.get (i := 0) (by simp)
  obtain ⟨W, hW⟩ : ∃ q, q = w.alloc (.cells (stC 0 0 0 0 0 0 (.slice none 0 0)) 40) := ⟨_, rfl⟩
  have HB := hid (show Below w.heap.size w W by rw [hW]; exact (Below.refl _ _).alloc (Nat.le_refl _) _)
  have HX := hid (show Blk W w.heap.size (stC 0 0 0 0 0 0 (.slice none 0 0)) 40 by rw [hW]; exact Blk.new _ _ _)
  have hc0' : W.cell? ⟨ba, oa, none⟩ = some (.string (bstr v)) := ((bcell HB.out).1 _ _ hba).trans hc0
  have hbw : ba < W.heap.size := Nat.lt_of_lt_of_le hba HB.out.size
  have HI := hid (fun w1 (hb : Below W.heap.size W w1) => indexS_any verbsL (some ⟨0, 0, none⟩) 10 v w1 (verbs_row ((HV.out.step HB.out).step hb)) (by decide))
  have ev : verbsL.length = 10 := rfl
  rw [ev] at HI
  obtain ⟨BV, hBV⟩ : ∃ q, q = bstr v := ⟨_, rfl⟩
  rw [← hBV] at HI hc0'
  have hiv : idxR verbsL v = 8 := by
    rcases idxR_verbs v with h | h
    · omega
    · omega
  rw [hiv] at HI
  have h1n : (1 : Int) ≤ ((n + 1 : Nat) : Int) := by omega
  have HK := hid hk
  have hle : w.heap.size < W.heap.size := HX.out.lt
  clear hw hv hWC hc0 ev hBV hk
  go_enter Tryd.func23, Tryd.ntmps23
  go_upto_region 1 with fail
  rw [← hW]
  clear hW
  refine region_ext (by kernel_rfl) (by kernel_rfl) (fun hext => ?_)
  repeat (any_goals ((with_reducible refine wpQuiet_step (fun K hK => ?_)); go_simp; first | (with_reducible refine hK _ ?_; clear hK K) | ((with_reducible apply Exists.intro); (with_reducible refine ⟨fun _ => ?_, hK _ ?_⟩); ((go_at_call 37; (with_reducible refine ext_call _ ?_ (HI.out _ (Ext.below _))); simp)); clear hK K) | ((with_reducible refine (if_neg ?_).mpr (hK _ ?_)); (decide); clear hK K) | (split <;> (with_reducible refine hK _ ?_; clear hK K))))
  all_goals ((with_reducible refine wpQuiet_nil ?_); clear hext; intro w1 hx1; have hb1 := ext_below hx1; clear hx1)
  have HB1 := hid hb1
  have HX1 := hid (HX.out.step hb1)
  have hle1 : w.heap.size < w1.heap.size := HX1.out.lt
  have HB01 := hid (Below.step' HB.out hb1)
  clear hb1 hc0' HI
  go_upto_region 2 with fail
  by_cases hn1 : n = 2
  · subst hn1
    obtain ⟨x1, x2, rfl⟩ : ∃ x1 x2, r = [x1, x2] := by
      match r, hn with
      | [x1, x2], _ => exact ⟨x1, x2, rfl⟩
    clear hn
    have hcp1 : (1 : Int) ≤ (cp : Int) := by omega
    have hcp' : (3 : Int) ≤ (cp : Int) := by omega
    have hcpn : (cp = 1) = False := eq_false (by omega)
    obtain ⟨w3, hw3⟩ : ∃ q, q = (w1.alloc (.cells #[.int .i64 0, .int .i64 2, .int .i64 5, .int .i64 3, .int .i64 5, .int .i64 3, .int .i64 3, .int .i64 2, .int .i64 3, .int .i64 4] 3)).alloc (.cells (stC 8 0 0 0 0 0 (.slice none 0 0)) 40) := ⟨_, rfl⟩
    have HB3 := hid (show Below w.heap.size w w3 by rw [hw3]; exact (HB01.out.alloc HB01.out.size _).alloc (HB01.out.alloc HB01.out.size _).size _)
    have HX3 := hid (show Blk w3 w.heap.size (stC 0 0 0 0 0 0 (.slice none 0 0)) 40 by rw [hw3]; exact (HX1.out.alloc _).alloc _)
    have HY3 := hid (show Blk w3 (w1.heap.size + 1) (stC 8 0 0 0 0 0 (.slice none 0 0)) 40 by rw [hw3]; exact Blk.new' _ _ _ (by simp))
    have HWH := hid (fun c1 => rwholes_any HWC.out [x1, x2] (some ⟨ba, oa + 1, none⟩) c1 w3 (WRow.tail (HW.out.step HB3.out)) (by simp))
    have el : ([x1, x2] : List (List UInt8)).length = 2 := rfl
    rw [el] at HWH
    go_wp2_with fail
    -- STOP-d8
    rw [← hw3]
    clear hw3
    refine (HWH.out _).mono ?_
    rintro e w4 ⟨NA, nn, nk, rfl, hb4, hns⟩
    have hsz3 : w1.heap.size + 1 < w3.heap.size := HY3.out.lt
    have HB4 := hid (Below.step' HB3.out hb4)
    have HX4 := hid (HX3.out.step hb4)
    have HY4 := hid (HY3.out.step hb4)
    clear hb4
    cases hnr : numsR [x1, x2] with
    | none =>
      have HNO := hid (rstep_bad HK.out (by omega) hnr)
      clear hns hnr
      obtain ⟨cHX4, fHX4, sHX4, nHX4⟩ := HX4.out.all
      try simp only [cbox] at cHX4
      go_wp2_with fail
      -- STOP-z
      obtain ⟨wF, hwF⟩ : ∃ q, q = qset7 w4 w.heap.size (.int .i64 0) (.int .i64 0) (.int .i64 0) (.int .i64 0) (.int .i64 0) (.int .i64 0) (.slice none 0 0) := ⟨_, rfl⟩
      have HYF : Blk wF w.heap.size (stC 0 0 0 0 0 0 (.slice none 0 0)) 40 := by rw [hwF]; exact Blk.qset7 HX4.out _ _ _ _ _ _ _
      have hbF : Below w.heap.size w wF := by
        have hb0 := HB4.out
        rw [hwF]
        simp only [qset7]
        (repeat' (first | (with_reducible exact Below.refl _ _) | (with_reducible assumption) | (with_reducible refine below_drewN ?_ _) | (with_reducible refine Below.drew ?_) | (with_reducible refine Below.alloc ?_ ?_ _) | (with_reducible refine Below.setCell ?_ ?_ _) | (refine Below.trans ?_ (Below.mono (by assumption) ?_)) | go_size))
      have HWF := hid hwF
      simp only [qset7] at hwF
      rw [← hwF]
      have q0 := HYF.cells.1 0
      have q1 := HYF.cells.1 1
      have q2 := HYF.cells.1 2
      have q3 := HYF.cells.1 3
      have q4 := HYF.cells.1 4
      have q5 := HYF.cells.1 5
      have q6 := HYF.cells.1 6
      simp [stC] at q0 q1 q2 q3 q4 q5 q6
      clear hwF HYF
      refine bodyPost_ret (v := .tuple #[.agg (stC 0 0 0 0 0 0 (.slice none 0 0)), .bool false]) (by simp [results, Tryd.results23, go_sem, q0, q1, q2, q3, q4, q5, q6]) rfl ?_
      exact ⟨0, 0, 0, 0, 0, 0, none, 0, 0, by rw [HNO.out]; rfl, hbF, fun st h => by rw [HNO.out] at h; cases h⟩
    | some ns =>
      obtain ⟨rfl, hni⟩ := hns ns hnr
      obtain ⟨a, b, rfl⟩ : ∃ a b, ns = [a, b] := by
        match ns, numsR_len hnr with
        | [a, b], _ => exact ⟨a, b, rfl⟩
      have HYS := hid (rstep_yes HK.out (by omega) hnr)
      obtain ⟨g, off, rfl, hg, hgc⟩ : ∃ g off, NA = some ⟨g, off, none⟩ ∧ w3.heap.size ≤ g ∧ ∀ j u, (icells' [a, b])[j]? = some u → w4.cell? ⟨g, off + j, none⟩ = some u := by
        rcases hni.1 with e | ⟨g, off, e, h2, h3⟩
        · simp [icells'] at e
        · exact ⟨g, off, e, hni.2 g off none e, h3⟩
      have el2 : ([a, b] : List Int).length = 2 := rfl
      rw [el2]
      have g0 : w4.cell? ⟨g, off, none⟩ = some (.int .i64 a) := hgc 0 _ rfl
      have g1 : w4.cell? ⟨g, off + 1, none⟩ = some (.int .i64 b) := hgc 1 _ rfl
      have hgx : (w1.heap.size + 1 = g) = False := eq_false (by omega)
      have hgx' : (g = w1.heap.size + 1) = False := eq_false (by omega)
      clear hns hnr hni hgc el el2
      obtain ⟨cHX4, fHX4, sHX4, nHX4⟩ := HX4.out.all
      try simp only [cbox] at cHX4
      obtain ⟨cHY4, fHY4, sHY4, nHY4⟩ := HY4.out.all
      try simp only [cbox] at cHY4
      go_wp2_with fail
      -- STOP-f8
      obtain ⟨wF, hwF⟩ : ∃ q, q = (qset7 ((w4.setCell ⟨w1.heap.size + 1, 1, none⟩ (.int .i64 a)).setCell ⟨w1.heap.size + 1, 3, none⟩ (.int .i64 b)) w.heap.size (.int .i64 8) (.int .i64 a) (.int .i64 0) (.int .i64 b) (.int .i64 0) (.int .i64 0) (.slice none 0 0)) := ⟨_, rfl⟩
      have HYF : Blk wF w.heap.size (stC 8 a 0 b 0 0 (.slice none 0 0)) 40 := by rw [hwF]; exact Blk.qset7 (Blk.other (Blk.other HX4.out (a := ⟨w1.heap.size + 1, 1, none⟩) (by simp; omega) _) (a := ⟨w1.heap.size + 1, 3, none⟩) (by simp; omega) _) _ _ _ _ _ _ _
      have hbF : Below w.heap.size w wF := by
        have hb0 := HB4.out
        rw [hwF]
        simp only [qset7]
        (repeat' (first | (with_reducible exact Below.refl _ _) | (with_reducible assumption) | (with_reducible refine below_drewN ?_ _) | (with_reducible refine Below.drew ?_) | (with_reducible refine Below.alloc ?_ ?_ _) | (with_reducible refine Below.setCell ?_ ?_ _) | (refine Below.trans ?_ (Below.mono (by assumption) ?_)) | go_size))
      have HWF := hid hwF
      simp only [qset7] at hwF
      rw [← hwF]
      have q0 := HYF.cells.1 0
      have q1 := HYF.cells.1 1
      have q2 := HYF.cells.1 2
      have q3 := HYF.cells.1 3
      have q4 := HYF.cells.1 4
      have q5 := HYF.cells.1 5
      have q6 := HYF.cells.1 6
      simp [stC] at q0 q1 q2 q3 q4 q5 q6
      clear hwF HYF
      refine bodyPost_ret (v := .tuple #[.agg (stC 8 a 0 b 0 0 (.slice none 0 0)), .bool true]) (by simp [results, Tryd.results23, go_sem, q0, q1, q2, q3, q4, q5, q6]) rfl ?_
      have hy : stepR [v, x1, x2] = some ⟨8, a, 0, b, 0, 0, []⟩ := HYS.out.trans (by simp [mkR])
      exact ⟨8, a, 0, b, 0, 0, none, 0, 0, by rw [hy]; rfl, hbF, fun st h => ⟨[], by rw [hy] at h; exact (Option.some.inj h).symm, rfl, NewInts.nil _ _⟩⟩
  · have tn : ((n : Int) + 1 == 3) = false := beq_eq_false_iff_ne.2 (by omega)
    have HNO := hid (rstep_no (r := r) HK.out (by omega) (by rw [hn]; exact hn1))
    obtain ⟨w2, hw2⟩ : ∃ q, q = w1.alloc (.cells #[.int .i64 0, .int .i64 2, .int .i64 5, .int .i64 3, .int .i64 5, .int .i64 3, .int .i64 3, .int .i64 2, .int .i64 3, .int .i64 4] 3) := ⟨_, rfl⟩
    have HB2 := hid (show Below w.heap.size w w2 by rw [hw2]; exact HB01.out.alloc HB01.out.size _)
    have HX2 := hid (show Blk w2 w.heap.size (stC 0 0 0 0 0 0 (.slice none 0 0)) 40 by rw [hw2]; exact HX1.out.alloc _)
    go_upto_region 3 with fail
    rw [← hw2]
    clear hw2
    obtain ⟨cHX2, fHX2, sHX2, nHX2⟩ := HX2.out.all
    try simp only [cbox] at cHX2
    go_wp2_with fail
    -- STOP-z
    obtain ⟨wF, hwF⟩ : ∃ q, q = qset7 w2 w.heap.size (.int .i64 0) (.int .i64 0) (.int .i64 0) (.int .i64 0) (.int .i64 0) (.int .i64 0) (.slice none 0 0) := ⟨_, rfl⟩
    have HYF : Blk wF w.heap.size (stC 0 0 0 0 0 0 (.slice none 0 0)) 40 := by rw [hwF]; exact Blk.qset7 HX2.out _ _ _ _ _ _ _
    have hbF : Below w.heap.size w wF := by
      have hb0 := HB2.out
      rw [hwF]
      simp only [qset7]
      (repeat' (first | (with_reducible exact Below.refl _ _) | (with_reducible assumption) | (with_reducible refine below_drewN ?_ _) | (with_reducible refine Below.drew ?_) | (with_reducible refine Below.alloc ?_ ?_ _) | (with_reducible refine Below.setCell ?_ ?_ _) | (refine Below.trans ?_ (Below.mono (by assumption) ?_)) | go_size))
    have HWF := hid hwF
    simp only [qset7] at hwF
    rw [← hwF]
    have q0 := HYF.cells.1 0
    have q1 := HYF.cells.1 1
    have q2 := HYF.cells.1 2
    have q3 := HYF.cells.1 3
    have q4 := HYF.cells.1 4
    have q5 := HYF.cells.1 5
    have q6 := HYF.cells.1 6
    simp [stC] at q0 q1 q2 q3 q4 q5 q6
    clear hwF HYF
    refine bodyPost_ret (v := .tuple #[.agg (stC 0 0 0 0 0 0 (.slice none 0 0)), .bool false]) (by simp [results, Tryd.results23, go_sem, q0, q1, q2, q3, q4, q5, q6]) rfl ?_
    exact ⟨0, 0, 0, 0, 0, 0, none, 0, 0, by rw [HNO.out]; rfl, hbF, fun st h => by rw [HNO.out] at h; cases h⟩
set_option maxHeartbeats 8000000 in
set_option maxRecDepth 100000 in
theorem rstep_k9 (hWC : WholeC) (v : List UInt8) (r : List (List UInt8)) (A : Option Addr) (cp n : Nat) (hn : r.length = n) (w : World) (hw : WRow w A (v :: r)) (hl : n ≤ 1999) (hcp : n + 1 ≤ cp) (hv : VerbsAt w) (hk : kindR v = 9) :
    Calls Tryd.prog 23 #[.slice A (n + 1) cp] w (StepPost (v :: r) w) := by
  have HW := hid hw
  have HV := hid hv
  have HWC := hid hWC
  obtain ⟨ba, oa, rfl, hba, hc0⟩ := HW.out.get (i := 0) (by simp)
  obtain ⟨W, hW⟩ : ∃ q, q = w.alloc (.cells (stC 0 0 0 0 0 0 (.slice none 0 0)) 40) := ⟨_, rfl⟩
  have HB := hid (show Below w.heap.size w W by rw [hW]; exact (Below.refl _ _).alloc (Nat.le_refl _) _)
  have HX := hid (show Blk W w.heap.size (stC 0 0 0 0 0 0 (.slice none 0 0)) 40 by rw [hW]; exact Blk.new _ _ _)
  have hc0' : W.cell? ⟨ba, oa, none⟩ = some (.string (bstr v)) := ((bcell HB.out).1 _ _ hba).trans hc0
  have hbw : ba < W.heap.size := Nat.lt_of_lt_of_le hba HB.out.size
  have HI := hid (fun w1 (hb : Below W.heap.size W w1) => indexS_any verbsL (some ⟨0, 0, none⟩) 10 v w1 (verbs_row ((HV.out.step HB.out).step hb)) (by decide))
  have ev : verbsL.length = 10 := rfl
  rw [ev] at HI
  obtain ⟨BV, hBV⟩ : ∃ q, q = bstr v := ⟨_, rfl⟩
  rw [← hBV] at HI hc0'
  have hiv : idxR verbsL v = 9 := by
    rcases idxR_verbs v with h | h
    · omega
    · omega
  rw [hiv] at HI
  have h1n : (1 : Int) ≤ ((n + 1 : Nat) : Int) := by omega
  have HK := hid hk
  have hle : w.heap.size < W.heap.size := HX.out.lt
  clear hw hv hWC hc0 ev hBV hk
  go_enter Tryd.func23, Tryd.ntmps23
  go_upto_region 1 with fail
  rw [← hW]
  clear hW
  refine region_ext (by kernel_rfl) (by kernel_rfl) (fun hext => ?_)
  repeat (any_goals ((with_reducible refine wpQuiet_step (fun K hK => ?_)); go_simp; first | (with_reducible refine hK _ ?_; clear hK K) | ((with_reducible apply Exists.intro); (with_reducible refine ⟨fun _ => ?_, hK _ ?_⟩); ((go_at_call 37; (with_reducible refine ext_call _ ?_ (HI.out _ (Ext.below _))); simp)); clear hK K) | ((with_reducible refine (if_neg ?_).mpr (hK _ ?_)); (decide); clear hK K) | (split <;> (with_reducible refine hK _ ?_; clear hK K))))
  all_goals ((with_reducible refine wpQuiet_nil ?_); clear hext; intro w1 hx1; have hb1 := ext_below hx1; clear hx1)
  have HB1 := hid hb1
  have HX1 := hid (HX.out.step hb1)
  have hle1 : w.heap.size < w1.heap.size := HX1.out.lt
  have HB01 := hid (Below.step' HB.out hb1)
  clear hb1 hc0' HI
  go_upto_region 2 with fail
  by_cases hn1 : n = 3
  · subst hn1
    obtain ⟨x1, x2, x3, rfl⟩ : ∃ x1 x2 x3, r = [x1, x2, x3] := by
      match r, hn with
      | [x1, x2, x3], _ => exact ⟨x1, x2, x3, rfl⟩
    clear hn
    have hcp1 : (1 : Int) ≤ (cp : Int) := by omega
    have hcp' : (4 : Int) ≤ (cp : Int) := by omega
    have hcpn : (cp = 1) = False := eq_false (by omega)
    obtain ⟨w3, hw3⟩ : ∃ q, q = (w1.alloc (.cells #[.int .i64 0, .int .i64 2, .int .i64 5, .int .i64 3, .int .i64 5, .int .i64 3, .int .i64 3, .int .i64 2, .int .i64 3, .int .i64 4] 3)).alloc (.cells (stC 9 0 0 0 0 0 (.slice none 0 0)) 40) := ⟨_, rfl⟩
    have HB3 := hid (show Below w.heap.size w w3 by rw [hw3]; exact (HB01.out.alloc HB01.out.size _).alloc (HB01.out.alloc HB01.out.size _).size _)
    have HX3 := hid (show Blk w3 w.heap.size (stC 0 0 0 0 0 0 (.slice none 0 0)) 40 by rw [hw3]; exact (HX1.out.alloc _).alloc _)
    have HY3 := hid (show Blk w3 (w1.heap.size + 1) (stC 9 0 0 0 0 0 (.slice none 0 0)) 40 by rw [hw3]; exact Blk.new' _ _ _ (by simp))
    have HWH := hid (fun c1 => rwholes_any HWC.out [x1, x2, x3] (some ⟨ba, oa + 1, none⟩) c1 w3 (WRow.tail (HW.out.step HB3.out)) (by simp))
    have el : ([x1, x2, x3] : List (List UInt8)).length = 3 := rfl
    rw [el] at HWH
    go_wp2_with fail
    -- STOP-d9
    rw [← hw3]
    clear hw3
    refine (HWH.out _).mono ?_
    rintro e w4 ⟨NA, nn, nk, rfl, hb4, hns⟩
    have hsz3 : w1.heap.size + 1 < w3.heap.size := HY3.out.lt
    have HB4 := hid (Below.step' HB3.out hb4)
    have HX4 := hid (HX3.out.step hb4)
    have HY4 := hid (HY3.out.step hb4)
    clear hb4
    cases hnr : numsR [x1, x2, x3] with
    | none =>
      have HNO := hid (rstep_bad HK.out (by omega) hnr)
      clear hns hnr
      obtain ⟨cHX4, fHX4, sHX4, nHX4⟩ := HX4.out.all
      try simp only [cbox] at cHX4
      go_wp2_with fail
      -- STOP-z
      obtain ⟨wF, hwF⟩ : ∃ q, q = qset7 w4 w.heap.size (.int .i64 0) (.int .i64 0) (.int .i64 0) (.int .i64 0) (.int .i64 0) (.int .i64 0) (.slice none 0 0) := ⟨_, rfl⟩
      have HYF : Blk wF w.heap.size (stC 0 0 0 0 0 0 (.slice none 0 0)) 40 := by rw [hwF]; exact Blk.qset7 HX4.out _ _ _ _ _ _ _
      have hbF : Below w.heap.size w wF := by
        have hb0 := HB4.out
        rw [hwF]
        simp only [qset7]
        (repeat' (first | (with_reducible exact Below.refl _ _) | (with_reducible assumption) | (with_reducible refine below_drewN ?_ _) | (with_reducible refine Below.drew ?_) | (with_reducible refine Below.alloc ?_ ?_ _) | (with_reducible refine Below.setCell ?_ ?_ _) | (refine Below.trans ?_ (Below.mono (by assumption) ?_)) | go_size))
      have HWF := hid hwF
      simp only [qset7] at hwF
      rw [← hwF]
      have q0 := HYF.cells.1 0
      have q1 := HYF.cells.1 1
      have q2 := HYF.cells.1 2
      have q3 := HYF.cells.1 3
      have q4 := HYF.cells.1 4
      have q5 := HYF.cells.1 5
      have q6 := HYF.cells.1 6
      simp [stC] at q0 q1 q2 q3 q4 q5 q6
      clear hwF HYF
      refine bodyPost_ret (v := .tuple #[.agg (stC 0 0 0 0 0 0 (.slice none 0 0)), .bool false]) (by simp [results, Tryd.results23, go_sem, q0, q1, q2, q3, q4, q5, q6]) rfl ?_
      exact ⟨0, 0, 0, 0, 0, 0, none, 0, 0, by rw [HNO.out]; rfl, hbF, fun st h => by rw [HNO.out] at h; cases h⟩
    | some ns =>
      obtain ⟨rfl, hni⟩ := hns ns hnr
      obtain ⟨a, b, c, rfl⟩ : ∃ a b c, ns = [a, b, c] := by
        match ns, numsR_len hnr with
        | [a, b, c], _ => exact ⟨a, b, c, rfl⟩
      have HYS := hid (rstep_yes HK.out (by omega) hnr)
      obtain ⟨g, off, rfl, hg, hgc⟩ : ∃ g off, NA = some ⟨g, off, none⟩ ∧ w3.heap.size ≤ g ∧ ∀ j u, (icells' [a, b, c])[j]? = some u → w4.cell? ⟨g, off + j, none⟩ = some u := by
        rcases hni.1 with e | ⟨g, off, e, h2, h3⟩
        · simp [icells'] at e
        · exact ⟨g, off, e, hni.2 g off none e, h3⟩
      have el2 : ([a, b, c] : List Int).length = 3 := rfl
      rw [el2]
      have g0 : w4.cell? ⟨g, off, none⟩ = some (.int .i64 a) := hgc 0 _ rfl
      have g1 : w4.cell? ⟨g, off + 1, none⟩ = some (.int .i64 b) := hgc 1 _ rfl
      have g2 : w4.cell? ⟨g, off + 2, none⟩ = some (.int .i64 c) := hgc 2 _ rfl
      have hgx : (w1.heap.size + 1 = g) = False := eq_false (by omega)
      have hgx' : (g = w1.heap.size + 1) = False := eq_false (by omega)
      clear hns hnr hni hgc el el2
      obtain ⟨cHX4, fHX4, sHX4, nHX4⟩ := HX4.out.all
      try simp only [cbox] at cHX4
      obtain ⟨cHY4, fHY4, sHY4, nHY4⟩ := HY4.out.all
      try simp only [cbox] at cHY4
      go_wp2_with fail
      -- STOP-f9
      go_region_held3 (fun w' => w'.cell? ⟨g, off + 1, none⟩ = some (.int .i64 b) ∧ w'.cell? ⟨g, off + 2, none⟩ = some (.int .i64 c)) ((repeat' (first | apply And.intro | (with_reducible assumption) | (with_reducible refine qsc_drew ?_) | (with_reducible refine qsc_alloc ?_) | (with_reducible refine qsc ?_ ?_)))) (fail)
      -- STOP-h9
      obtain ⟨w7, hw7⟩ : ∃ q, q = World.drew (((w4.setCell ⟨w1.heap.size + 1, 1, none⟩ (.int .i64 a)).setCell ⟨w1.heap.size + 1, 3, none⟩ (.int .i64 b)).setCell ⟨w1.heap.size + 1, 5, none⟩ (.int .i64 c)) := ⟨_, rfl⟩
      have HX7 := hid (show Blk w7 w.heap.size (stC 0 0 0 0 0 0 (.slice none 0 0)) 40 by rw [hw7]; exact (Blk.other (Blk.other (Blk.other HX4.out (a := ⟨w1.heap.size + 1, 1, none⟩) (by simp; omega) _) (a := ⟨w1.heap.size + 1, 3, none⟩) (by simp; omega) _) (a := ⟨w1.heap.size + 1, 5, none⟩) (by simp; omega) _))
      have HY7 := hid (show Blk w7 (w1.heap.size + 1) (stC 9 a 0 b 0 c (.slice none 0 0)) 40 by rw [hw7]; exact (Blk.set (Blk.set (Blk.set HY4.out 1 (.int .i64 a)) 3 (.int .i64 b)) 5 (.int .i64 c)))
      have HB7 := hid (show Below w.heap.size w w7 by rw [hw7]; exact Below.drew (Below.setCell (Below.setCell (Below.setCell HB4.out (p := ⟨w1.heap.size + 1, 1, none⟩) (by simp; omega) _) (p := ⟨w1.heap.size + 1, 3, none⟩) (by simp; omega) _) (p := ⟨w1.heap.size + 1, 5, none⟩) (by simp; omega) _))
      have hsz7 : w1.heap.size + 1 < w7.heap.size := HY7.out.lt
      rw [← hw7]
      clear hw7
      try (rename_i hH; clear hH)
      clear cHX4 fHX4 sHX4 nHX4
      clear cHY4 fHY4 sHY4 nHY4
      clear g0 g1 g2
      obtain ⟨cHX7, fHX7, sHX7, nHX7⟩ := HX7.out.all
      try simp only [cbox] at cHX7
      obtain ⟨cHY7, fHY7, sHY7, nHY7⟩ := HY7.out.all
      try simp only [cbox] at cHY7
      go_wp2_with fail
      -- STOP-g9
      obtain ⟨wF, hwF⟩ : ∃ q, q = (qset7 w7 w.heap.size (.int .i64 9) (.int .i64 a) (.int .i64 0) (.int .i64 b) (.int .i64 0) (.int .i64 c) (.slice none 0 0)) := ⟨_, rfl⟩
      have HYF : Blk wF w.heap.size (stC 9 a 0 b 0 c (.slice none 0 0)) 40 := by rw [hwF]; exact Blk.qset7 HX7.out _ _ _ _ _ _ _
      have hbF : Below w.heap.size w wF := by
        have hb0 := HB7.out
        rw [hwF]
        simp only [qset7]
        (repeat' (first | (with_reducible exact Below.refl _ _) | (with_reducible assumption) | (with_reducible refine below_drewN ?_ _) | (with_reducible refine Below.drew ?_) | (with_reducible refine Below.alloc ?_ ?_ _) | (with_reducible refine Below.setCell ?_ ?_ _) | (refine Below.trans ?_ (Below.mono (by assumption) ?_)) | go_size))
      have HWF := hid hwF
      simp only [qset7] at hwF
      rw [← hwF]
      have q0 := HYF.cells.1 0
      have q1 := HYF.cells.1 1
      have q2 := HYF.cells.1 2
      have q3 := HYF.cells.1 3
      have q4 := HYF.cells.1 4
      have q5 := HYF.cells.1 5
      have q6 := HYF.cells.1 6
      simp [stC] at q0 q1 q2 q3 q4 q5 q6
      clear hwF HYF
      refine bodyPost_ret (v := .tuple #[.agg (stC 9 a 0 b 0 c (.slice none 0 0)), .bool true]) (by simp [results, Tryd.results23, go_sem, q0, q1, q2, q3, q4, q5, q6]) rfl ?_
      have hy : stepR [v, x1, x2, x3] = some ⟨9, a, 0, b, 0, c, []⟩ := HYS.out.trans (by simp [mkR])
      exact ⟨9, a, 0, b, 0, c, none, 0, 0, by rw [hy]; rfl, hbF, fun st h => ⟨[], by rw [hy] at h; exact (Option.some.inj h).symm, rfl, NewInts.nil _ _⟩⟩
  · have tn : ((n : Int) + 1 == 4) = false := beq_eq_false_iff_ne.2 (by omega)
    have HNO := hid (rstep_no (r := r) HK.out (by omega) (by rw [hn]; exact hn1))
    obtain ⟨w2, hw2⟩ : ∃ q, q = w1.alloc (.cells #[.int .i64 0, .int .i64 2, .int .i64 5, .int .i64 3, .int .i64 5, .int .i64 3, .int .i64 3, .int .i64 2, .int .i64 3, .int .i64 4] 3) := ⟨_, rfl⟩
    have HB2 := hid (show Below w.heap.size w w2 by rw [hw2]; exact HB01.out.alloc HB01.out.size _)
    have HX2 := hid (show Blk w2 w.heap.size (stC 0 0 0 0 0 0 (.slice none 0 0)) 40 by rw [hw2]; exact HX1.out.alloc _)
    go_upto_region 3 with fail
    rw [← hw2]
    clear hw2
    obtain ⟨cHX2, fHX2, sHX2, nHX2⟩ := HX2.out.all
    try simp only [cbox] at cHX2
    go_wp2_with fail
    -- STOP-z
    obtain ⟨wF, hwF⟩ : ∃ q, q = qset7 w2 w.heap.size (.int .i64 0) (.int .i64 0) (.int .i64 0) (.int .i64 0) (.int .i64 0) (.int .i64 0) (.slice none 0 0) := ⟨_, rfl⟩
    have HYF : Blk wF w.heap.size (stC 0 0 0 0 0 0 (.slice none 0 0)) 40 := by rw [hwF]; exact Blk.qset7 HX2.out _ _ _ _ _ _ _
    have hbF : Below w.heap.size w wF := by
      have hb0 := HB2.out
      rw [hwF]
      simp only [qset7]
      (repeat' (first | (with_reducible exact Below.refl _ _) | (with_reducible assumption) | (with_reducible refine below_drewN ?_ _) | (with_reducible refine Below.drew ?_) | (with_reducible refine Below.alloc ?_ ?_ _) | (with_reducible refine Below.setCell ?_ ?_ _) | (refine Below.trans ?_ (Below.mono (by assumption) ?_)) | go_size))
    have HWF := hid hwF
    simp only [qset7] at hwF
    rw [← hwF]
    have q0 := HYF.cells.1 0
    have q1 := HYF.cells.1 1
    have q2 := HYF.cells.1 2
    have q3 := HYF.cells.1 3
    have q4 := HYF.cells.1 4
    have q5 := HYF.cells.1 5
    have q6 := HYF.cells.1 6
    simp [stC] at q0 q1 q2 q3 q4 q5 q6
    clear hwF HYF
    refine bodyPost_ret (v := .tuple #[.agg (stC 0 0 0 0 0 0 (.slice none 0 0)), .bool false]) (by simp [results, Tryd.results23, go_sem, q0, q1, q2, q3, q4, q5, q6]) rfl ?_
    exact ⟨0, 0, 0, 0, 0, 0, none, 0, 0, by rw [HNO.out]; rfl, hbF, fun st h => by rw [HNO.out] at h; cases h⟩
end Go.Proofs.YtamlaeocojcgdaaDoor
