/- QsF -/
import Derived.Test.YtamlaeocojcgdaaDoorQueryReadsCardS09
/- viewref.readStep: no word; where; pick. -/
namespace Go.Proofs.YtamlaeocojcgdaaDoor
set_option linter.unusedVariables false
set_option linter.unusedSimpArgs false
open Go.ChangeShapes Go.WideShapes Go.ChangeAt Go.RowKit

theorem rstep_w2 {v : List UInt8} {r : List (List UInt8)} (hk : kindR v = 2) (h : whereR r = none) : stepR (v :: r) = none := by
  have h1 := (step_where (r := r) hk).1
  rw [h] at h1
  cases hs : stepR (v :: r) with
  | none => rfl
  | some s => rw [hs] at h1; simp at h1
theorem rstep_p2 {v : List UInt8} {r : List (List UInt8)} (hk : kindR v = 3) (h : pickW r = none) : stepR (v :: r) = none := by
  have h1 := (step_pick (r := r) hk).1
  rw [h] at h1
  cases hs : stepR (v :: r) with
  | none => rfl
  | some s => rw [hs] at h1; simp at h1
theorem Blk.qrow {w : World} {b : Nat} {cs : Array Value} {T : TypeId} (h : Blk w b cs T) : Row w w.heap.size (some ⟨b, 0, none⟩) cs.toList :=
  .inr ⟨b, 0, rfl, h.lt, fun j u hu => by rw [Nat.zero_add, h.cells.1 j]; simpa using hu⟩
abbrev signsL : List (List UInt8) := [signB 0, signB 1, signB 2, signB 3]
theorem sign_yes {ix : Int} {o : List UInt8} (h : ix = idxR signsL o) (hi : ¬ ix < 1) : signR o = some ix := by
  rw [h] at hi ⊢
  by_cases h0 : o = signB 0
  · exfalso; rw [h0] at hi; revert hi; decide
  by_cases h1 : o = signB 1
  · rw [h1]; decide
  by_cases h2 : o = signB 2
  · rw [h2]; decide
  by_cases h3 : o = signB 3
  · rw [h3]; decide
  · exfalso
    have : idxR signsL o = -1 := idxR_miss (fun l hl => by
      simp only [List.mem_cons, List.not_mem_nil, or_false] at hl
      rcases hl with rfl | rfl | rfl | rfl <;> assumption)
    omega
theorem where_no {r : List (List UInt8)} {x y o z : List UInt8} (hr : r = [x, y, o, z]) (hi : idxR signsL o < 1) : whereR r = none := by
  subst hr
  have : signR o = none := by
    cases h : signR o with
    | none => rfl
    | some p =>
      exfalso
      unfold signR at h
      by_cases h1 : o = [60]
      · rw [h1] at hi; revert hi; decide
      by_cases h2 : o = [61]
      · rw [h2] at hi; revert hi; decide
      by_cases h3 : o = [62]
      · rw [h3] at hi; revert hi; decide
      rw [if_neg h1, if_neg h2, if_neg h3] at h; cases h
  simp only [whereR]; rw [this]
theorem rstep_where {v x y o z : List UInt8} (hk : kindR v = 2) {p a b c : Int} (h : whereR [x, y, o, z] = some (p, [a, b, c])) : stepR [v, x, y, o, z] = some ⟨2, a, 0, b, p, c, []⟩ := by
  have h1 := step_where (r := [x, y, o, z]) hk
  cases hs : stepR (v :: [x, y, o, z]) with
  | none => have := h1.1; rw [hs, h] at this; simp at this
  | some s =>
    obtain ⟨p', a', b', c', e1, e2⟩ := h1.2 s hs
    rw [h] at e1
    simp only [Option.some.injEq, Prod.mk.injEq, List.cons.injEq, and_true] at e1
    obtain ⟨rfl, rfl, rfl, rfl⟩ := e1
    rw [e2]
theorem rstep_pick {v x y : List UInt8} (hk : kindR v = 3) {a : Int} {l : List Int} (h : pickW [x, y] = some (a, l)) : stepR [v, x, y] = some ⟨3, a, 0, 0, 0, 0, l⟩ := by
  have h1 := step_pick (r := [x, y]) hk
  cases hs : stepR (v :: [x, y]) with
  | none => have := h1.1; rw [hs, h] at this; simp at this
  | some s =>
    obtain ⟨a', l', e1, e2⟩ := h1.2 s hs
    rw [h] at e1
    obtain ⟨rfl, rfl⟩ := Prod.mk.inj (Option.some.inj e1)
    rw [e2]
theorem whereR_len {r : List (List UInt8)} (h : r.length ≠ 4) : whereR r = none := by
  match r, h with
  | [], _ => rfl
  | [_], _ => rfl
  | [_, _], _ => rfl
  | [_, _, _], _ => rfl
  | [_, _, _, _], h => exact absurd rfl h
  | _ :: _ :: _ :: _ :: _ :: _, _ => rfl
theorem pickW_len {r : List (List UInt8)} (h : r.length ≠ 2) : pickW r = none := by
  match r, h with
  | [], _ => rfl
  | [_], _ => rfl
  | [_, _], h => exact absurd rfl h
  | _ :: _ :: _ :: _, _ => rfl

set_option maxHeartbeats 8000000 in
set_option maxRecDepth 100000 in
theorem rstep_k0 (hWC : WholeC) (v : List UInt8) (r : List (List UInt8)) (A : Option Addr) (cp n : Nat) (hn : r.length = n) (w : World) (hw : WRow w A (v :: r)) (hl : n ≤ 1999) (hcp : n + 1 ≤ cp) (hv : VerbsAt w) (hk : kindR v = 0) :
    Calls Tryd.prog 23 #[.slice A (n + 1) cp] w (StepPost (v :: r) w) := by
  have HW := hid hw
  have HV := hid hv
  have HWC := hid hWC
  obtain ⟨ba, oa, rfl, hba, hc0⟩ := HW.out.get (i := 0) (by simp)
  obtain ⟨W, hW⟩ : ∃ q, q = w.alloc (.cells (stC 0 0 0 0 0 0 (.slice none 0 0)) 40) := ⟨_, rfl⟩
  have HB := hid (show Below w.heap.size w W by rw [hW]; exact (Below.refl _ _).alloc (Nat.le_refl _) _)
  have HX := hid (show Blk W w.heap.size (stC 0 0 0 0 0 0 (.slice none 0 0)) 40 by rw [hW]; exact Blk.new _ _ _)
  have hc0' : W.cell? ⟨ba, oa, none⟩ = some (.string (bstr v)) := ((bcell HB.out).1 _ _ hba).trans hc0
  have hbw : ba < W.heap.size := Nat.lt_of_lt_of_le hba HB.out.size
  have HI := hid (fun w1 (hb : Below W.heap.size W w1) => indexS_any verbsL (some ⟨0, 0, none⟩) 10 v w1 (verbs_row ((HV.out.step HB.out).step hb)) (by decide))
  have ev : verbsL.length = 10 := rfl
  rw [ev] at HI
  obtain ⟨BV, hBV⟩ : ∃ q, q = bstr v := ⟨_, rfl⟩
  rw [← hBV] at HI hc0'
  obtain ⟨ix, hix⟩ : ∃ q, q = idxR verbsL v := ⟨_, rfl⟩
  have hiv : ix = 0 ∨ ix = -1 := by
    rcases idxR_verbs v with h | h
    · rw [hix]; exact h.2
    · omega
  rw [← hix] at HI
  clear hix
  have h1n : (1 : Int) ≤ ((n + 1 : Nat) : Int) := by omega
  have HK := hid hk
  have hle : w.heap.size < W.heap.size := HX.out.lt
  clear hw hv hWC hc0 ev hBV hk
  go_enter Tryd.func23, Tryd.ntmps23
  go_upto_region 1 with fail
  rw [← hW]
  clear hW
  refine region_ext (by kernel_rfl) (by kernel_rfl) (fun hext => ?_)
  repeat (any_goals ((with_reducible refine wpQuiet_step (fun K hK => ?_)); go_simp; first | (with_reducible refine hK _ ?_; clear hK K) | ((with_reducible apply Exists.intro); (with_reducible refine ⟨fun _ => ?_, hK _ ?_⟩); ((go_at_call 37; (with_reducible refine ext_call _ ?_ (HI.out _ (Ext.below _))); simp)); clear hK K) | ((with_reducible refine (if_neg ?_).mpr (hK _ ?_)); (decide); clear hK K) | (split <;> (with_reducible refine hK _ ?_; clear hK K))))
  all_goals ((with_reducible refine wpQuiet_nil ?_); clear hext; intro w1 hx1; have hb1 := ext_below hx1; clear hx1)
  have HB1 := hid hb1
  have HX1 := hid (HX.out.step hb1)
  have hle1 : w.heap.size < w1.heap.size := HX1.out.lt
  have HB01 := hid (Below.step' HB.out hb1)
  clear hb1 hc0' HI
  go_upto_region 2 with fail
  have HNO := hid (step_nil (r := r) HK.out)
  rcases hiv with rfl | rfl
  all_goals
    obtain ⟨cHX1, fHX1, sHX1, nHX1⟩ := HX1.out.all
    try simp only [cbox] at cHX1
    go_wp2_with fail
    -- STOP-z
    obtain ⟨wF, hwF⟩ : ∃ q, q = qset7 w1 w.heap.size (.int .i64 0) (.int .i64 0) (.int .i64 0) (.int .i64 0) (.int .i64 0) (.int .i64 0) (.slice none 0 0) := ⟨_, rfl⟩
    have HYF : Blk wF w.heap.size (stC 0 0 0 0 0 0 (.slice none 0 0)) 40 := by rw [hwF]; exact Blk.qset7 HX1.out _ _ _ _ _ _ _
    have hbF : Below w.heap.size w wF := by
      have hb0 := HB01.out
      rw [hwF]
      simp only [qset7]
      (repeat' (first | (with_reducible exact Below.refl _ _) | (with_reducible assumption) | (with_reducible refine below_drewN ?_ _) | (with_reducible refine Below.drew ?_) | (with_reducible refine Below.alloc ?_ ?_ _) | (with_reducible refine Below.setCell ?_ ?_ _) | (refine Below.trans ?_ (Below.mono (by assumption) ?_)) | go_size))
    have HWF := hid hwF
    simp only [qset7] at hwF
    rw [← hwF]
    have q0 := HYF.cells.1 0
    have q1 := HYF.cells.1 1
    have q2 := HYF.cells.1 2
    have q3 := HYF.cells.1 3
    have q4 := HYF.cells.1 4
    have q5 := HYF.cells.1 5
    have q6 := HYF.cells.1 6
    simp [stC] at q0 q1 q2 q3 q4 q5 q6
    clear hwF HYF
    refine bodyPost_ret (v := .tuple #[.agg (stC 0 0 0 0 0 0 (.slice none 0 0)), .bool false]) (by simp [results, Tryd.results23, go_sem, q0, q1, q2, q3, q4, q5, q6]) rfl ?_
    exact ⟨0, 0, 0, 0, 0, 0, none, 0, 0, by rw [HNO.out]; rfl, hbF, fun st h => by rw [HNO.out] at h; cases h⟩
set_option maxHeartbeats 8000000 in
set_option maxRecDepth 100000 in
theorem rstep_k2 (hWC : WholeC) (v : List UInt8) (r : List (List UInt8)) (A : Option Addr) (cp n : Nat) (hn : r.length = n) (w : World) (hw : WRow w A (v :: r)) (hl : n ≤ 1999) (hcp : n + 1 ≤ cp) (hv : VerbsAt w) (hk : kindR v = 2) :
    Calls Tryd.prog 23 #[.slice A (n + 1) cp] w (StepPost (v :: r) w) := by
  have HW := hid hw
  have HV := hid hv
  have HWC := hid hWC
  obtain ⟨ba, oa, rfl, hba, hc0⟩ := HW.out.get (i := 0) (by simp)
  obtain ⟨W, hW⟩ : ∃ q, q = w.alloc (.cells (stC 0 0 0 0 0 0 (.slice none 0 0)) 40) := ⟨_, rfl⟩
  have HB := hid (show Below w.heap.size w W by rw [hW]; exact (Below.refl _ _).alloc (Nat.le_refl _) _)
  have HX := hid (show Blk W w.heap.size (stC 0 0 0 0 0 0 (.slice none 0 0)) 40 by rw [hW]; exact Blk.new _ _ _)
  have hc0' : W.cell? ⟨ba, oa, none⟩ = some (.string (bstr v)) := ((bcell HB.out).1 _ _ hba).trans hc0
  have hbw : ba < W.heap.size := Nat.lt_of_lt_of_le hba HB.out.size
  have HI := hid (fun w1 (hb : Below W.heap.size W w1) => indexS_any verbsL (some ⟨0, 0, none⟩) 10 v w1 (verbs_row ((HV.out.step HB.out).step hb)) (by decide))
  have ev : verbsL.length = 10 := rfl
  rw [ev] at HI
  obtain ⟨BV, hBV⟩ : ∃ q, q = bstr v := ⟨_, rfl⟩
  rw [← hBV] at HI hc0'
  have hiv : idxR verbsL v = 2 := by
    rcases idxR_verbs v with h | h
    · omega
    · omega
  rw [hiv] at HI
  have h1n : (1 : Int) ≤ ((n + 1 : Nat) : Int) := by omega
  have HK := hid hk
  have hle : w.heap.size < W.heap.size := HX.out.lt
  clear hw hv hWC hc0 ev hBV hk
  go_enter Tryd.func23, Tryd.ntmps23
  go_upto_region 1 with fail
  rw [← hW]
  clear hW
  refine region_ext (by kernel_rfl) (by kernel_rfl) (fun hext => ?_)
  repeat (any_goals ((with_reducible refine wpQuiet_step (fun K hK => ?_)); go_simp; first | (with_reducible refine hK _ ?_; clear hK K) | ((with_reducible apply Exists.intro); (with_reducible refine ⟨fun _ => ?_, hK _ ?_⟩); ((go_at_call 37; (with_reducible refine ext_call _ ?_ (HI.out _ (Ext.below _))); simp)); clear hK K) | ((with_reducible refine (if_neg ?_).mpr (hK _ ?_)); (decide); clear hK K) | (split <;> (with_reducible refine hK _ ?_; clear hK K))))
  all_goals ((with_reducible refine wpQuiet_nil ?_); clear hext; intro w1 hx1; have hb1 := ext_below hx1; clear hx1)
  have HB1 := hid hb1
  have HX1 := hid (HX.out.step hb1)
  have hle1 : w.heap.size < w1.heap.size := HX1.out.lt
  have HB01 := hid (Below.step' HB.out hb1)
  clear hb1 hc0' HI
  go_upto_region 2 with fail
  by_cases hn1 : n = 4
  · subst hn1
    obtain ⟨x, y, o, z, rfl⟩ : ∃ x y o z, r = [x, y, o, z] := by
      match r, hn with
      | [x, y, o, z], _ => exact ⟨x, y, o, z, rfl⟩
    clear hn
    have hcp1 : (1 : Int) ≤ (cp : Int) := by omega
    have hcp' : (5 : Int) ≤ (cp : Int) := by omega
    have hcpn : (cp = 1) = False := eq_false (by omega)
    have hbw1 : ba < w1.heap.size := Nat.lt_of_lt_of_le hba HB01.out.size
    have hcw : ∀ (j : Nat) (l : List UInt8), [v, x, y, o, z][j]? = some l → w1.cell? ⟨ba, oa + j, none⟩ = some (.string (bstr l)) := fun j l h => by
      rcases (HW.out.step HB01.out).2 with e | ⟨b', o', e, h2, h3⟩
      · simp [wcells] at e
      · obtain ⟨rfl, rfl, -⟩ := Addr.mk.inj (Option.some.inj e)
        exact h3 j _ (by simp only [wcells, List.getElem?_map, h, Option.map_some])
    have HWL := hid HW.out.1
    have nw0 : (ba = w1.heap.size) = False := eq_false (by omega)
    have nw1 : (ba = w1.heap.size + 1) = False := eq_false (by omega)
    have nw2 : (ba = w1.heap.size + 1 + 1) = False := eq_false (by omega)
    obtain ⟨SG, hSG⟩ : ∃ q : Array Value, q = #[.string ⟨#[]⟩, .string ⟨#[60]⟩, .string ⟨#[61]⟩, .string ⟨#[62]⟩] := ⟨_, rfl⟩
    obtain ⟨w2, hw2⟩ : ∃ q, q = (w1.alloc (.cells #[.int .i64 0, .int .i64 2, .int .i64 5, .int .i64 3, .int .i64 5, .int .i64 3, .int .i64 3, .int .i64 2, .int .i64 3, .int .i64 4] 3)).alloc (.cells (stC 2 0 0 0 0 0 (.slice none 0 0)) 40) := ⟨_, rfl⟩
    have HB12 := hid (show Below w1.heap.size w1 w2 by rw [hw2]; exact alloc_below (alloc_below (Below.refl _ _) _) _)
    have HX2 := hid (show Blk w2 w.heap.size (stC 0 0 0 0 0 0 (.slice none 0 0)) 40 by rw [hw2]; exact (HX1.out.alloc _).alloc _)
    have HY2 := hid (show Blk w2 (w1.heap.size + 1) (stC 2 0 0 0 0 0 (.slice none 0 0)) 40 by rw [hw2]; exact Blk.new' _ _ _ (by simp))
    have hbw2 : ba < w2.heap.size := Nat.lt_of_lt_of_le hbw1 HB12.out.size
    have nw3 : (ba = w2.heap.size) = False := eq_false (by omega)
    obtain ⟨w3, hw3⟩ : ∃ q, q = w2.alloc (.cells SG 9) := ⟨_, rfl⟩
    have HB13 := hid (show Below w1.heap.size w1 w3 by rw [hw3]; exact alloc_below HB12.out _)
    have HX3 := hid (show Blk w3 w.heap.size (stC 0 0 0 0 0 0 (.slice none 0 0)) 40 by rw [hw3]; exact HX2.out.alloc _)
    have HY3 := hid (show Blk w3 (w1.heap.size + 1) (stC 2 0 0 0 0 0 (.slice none 0 0)) 40 by rw [hw3]; exact HY2.out.alloc _)
    have HS3 := hid (show Blk w3 w2.heap.size SG 9 by rw [hw3]; exact Blk.new _ _ _)
    have HIX := hid (indexS_any signsL (some ⟨w2.heap.size, 0, none⟩) 4 o w3 ⟨by decide, by
      have h := Blk.qrow HS3.out
      rw [hSG] at h
      exact h⟩ (by decide))
    have e4 : signsL.length = 4 := rfl
    rw [e4] at HIX
    obtain ⟨ix, hix⟩ : ∃ q, q = idxR signsL o := ⟨_, rfl⟩
    rw [← hix] at HIX
    have HIX2 := hid hix
    obtain ⟨BO, hBO⟩ : ∃ q, q = bstr o := ⟨_, rfl⟩
    have d3 : w2.cell? ⟨ba, oa + 3, none⟩ = some (.string (bstr o)) := ((bcell HB12.out).1 _ _ hbw1).trans (hcw 3 o rfl)
    rw [← hBO] at d3 HIX
    rw [hSG] at hw3
    have HCW := hid hcw
    clear hcw hix hBO e4
    go_upto_region 6 with fail
    rw [← hw2]
    clear hw2
    go_wp2_with fail
    -- STOP-d2
    rw [← hw3]
    clear hw3 d3 hSG
    refine HIX.out.mono ?_
    rintro e w4 ⟨rfl, hb4⟩
    have HB14 := hid (Below.step' HB13.out hb4)
    have HB4 := hid (Below.step' HB01.out HB14.out)
    have HX4 := hid (HX3.out.step hb4)
    have HY4 := hid (HY3.out.step hb4)
    have hsz4 : w1.heap.size + 1 < w4.heap.size := HY4.out.lt
    have hbw4 : ba < w4.heap.size := Nat.lt_of_lt_of_le hbw1 HB14.out.size
    clear hb4 HIX
    obtain ⟨BX, hBX⟩ : ∃ q, q = bstr x := ⟨_, rfl⟩
    obtain ⟨BY, hBY⟩ : ∃ q, q = bstr y := ⟨_, rfl⟩
    obtain ⟨BZ, hBZ⟩ : ∃ q, q = bstr z := ⟨_, rfl⟩
    obtain ⟨BW, hBW⟩ : ∃ q, q = bstr v := ⟨_, rfl⟩
    have d0 : w4.cell? ⟨ba, oa, none⟩ = some (.string BW) := by rw [hBW]; exact ((bcell HB14.out).1 _ _ hbw1).trans (HCW.out 0 v rfl)
    have d1 : w4.cell? ⟨ba, oa + 1, none⟩ = some (.string BX) := by rw [hBX]; exact ((bcell HB14.out).1 _ _ hbw1).trans (HCW.out 1 x rfl)
    have d2 : w4.cell? ⟨ba, oa + 2, none⟩ = some (.string BY) := by rw [hBY]; exact ((bcell HB14.out).1 _ _ hbw1).trans (HCW.out 2 y rfl)
    have d4 : w4.cell? ⟨ba, oa + 4, none⟩ = some (.string BZ) := by rw [hBZ]; exact ((bcell HB14.out).1 _ _ hbw1).trans (HCW.out 4 z rfl)
    have nb1 : (w1.heap.size + 1 = ba) = False := eq_false (by omega)
    have nb2 : (ba = w1.heap.size + 1) = False := eq_false (by omega)
    obtain ⟨w5, hw5⟩ : ∃ q, q = ((w4.setCell ⟨w1.heap.size + 1, 4, none⟩ (.int .i64 ix)).alloc (.cells #[.string BW, .string BX, .string BY, .string BZ] 9)).drew := ⟨_, rfl⟩
    have HB5 := hid (show Below w.heap.size w w5 by rw [hw5]; exact ((HB4.out.setCell (p := ⟨w1.heap.size + 1, 4, none⟩) (by simp; omega) _).alloc (by have := HB4.out.size; simpa using this) _).drew)
    have HX5 := hid (show Blk w5 w.heap.size (stC 0 0 0 0 0 0 (.slice none 0 0)) 40 by rw [hw5]; exact (HX4.out.other (by simp; omega) _).alloc _)
    have HY5 := hid (show Blk w5 (w1.heap.size + 1) (stC 2 0 0 0 ix 0 (.slice none 0 0)) 40 by rw [hw5]; exact (HY4.out.set 4 _).alloc _)
    have HW5 := hid (show WRow w5 (some ⟨w4.heap.size, 1, none⟩) [x, y, z] from WRow.tail (l := v) ⟨fun l hl => HWL.out l (by simp at hl ⊢; rcases hl with h | h | h | h <;> simp [h]), by
      have h : Blk w5 w4.heap.size #[.string BW, .string BX, .string BY, .string BZ] 9 := by rw [hw5]; exact Blk.new' _ _ _ (by simp)
      rw [hBW, hBX, hBY, hBZ] at h
      exact Blk.qrow h⟩)
    have hw5s : w4.heap.size < w5.heap.size := by rw [hw5]; show _ < (World.alloc _ _).heap.size; simp
    have HWH := hid (fun c1 => rwholes_any HWC.out [x, y, z] (some ⟨w4.heap.size, 1, none⟩) c1 w5 HW5.out (by simp))
    have el : ([x, y, z] : List (List UInt8)).length = 3 := rfl
    rw [el] at HWH
    clear hBX hBY hBZ hBW el
    by_cases hix : ix < 1
    · have ti : (ix < 1) = True := eq_true hix
      have HNO := hid (rstep_w2 HK.out (where_no (r := [x, y, o, z]) rfl (HIX2.out ▸ hix)))
      obtain ⟨cHX4, fHX4, sHX4, nHX4⟩ := HX4.out.all
      try simp only [cbox] at cHX4
      obtain ⟨cHY4, fHY4, sHY4, nHY4⟩ := HY4.out.all
      try simp only [cbox] at cHY4
      go_upto_region 7 with fail
      -- STOP-r7
      go_region_held3 (fun w' => w'.cell? ⟨ba, oa, none⟩ = some (.string BW) ∧ w'.cell? ⟨ba, oa + 1, none⟩ = some (.string BX) ∧ w'.cell? ⟨ba, oa + 2, none⟩ = some (.string BY) ∧ w'.cell? ⟨ba, oa + 4, none⟩ = some (.string BZ)) ((repeat' (first | apply And.intro | (with_reducible assumption) | (with_reducible refine qsc_drew ?_) | (with_reducible refine qsc_alloc ?_) | (with_reducible refine qsc ?_ ?_)))) (fail)
      go_upto_region 9 with fail
      -- STOP-i
      rw [← hw5]
      clear hw5 d0 d1 d2 d4
      clear cHX4 fHX4 sHX4 nHX4
      clear cHY4 fHY4 sHY4 nHY4
      obtain ⟨cHX5, fHX5, sHX5, nHX5⟩ := HX5.out.all
      try simp only [cbox] at cHX5
      go_wp2_with fail
      -- STOP-z
      obtain ⟨wF, hwF⟩ : ∃ q, q = qset7 w5 w.heap.size (.int .i64 0) (.int .i64 0) (.int .i64 0) (.int .i64 0) (.int .i64 0) (.int .i64 0) (.slice none 0 0) := ⟨_, rfl⟩
      have HYF : Blk wF w.heap.size (stC 0 0 0 0 0 0 (.slice none 0 0)) 40 := by rw [hwF]; exact Blk.qset7 HX5.out _ _ _ _ _ _ _
      have hbF : Below w.heap.size w wF := by
        have hb0 := HB5.out
        rw [hwF]
        simp only [qset7]
        (repeat' (first | (with_reducible exact Below.refl _ _) | (with_reducible assumption) | (with_reducible refine below_drewN ?_ _) | (with_reducible refine Below.drew ?_) | (with_reducible refine Below.alloc ?_ ?_ _) | (with_reducible refine Below.setCell ?_ ?_ _) | (refine Below.trans ?_ (Below.mono (by assumption) ?_)) | go_size))
      have HWF := hid hwF
      simp only [qset7] at hwF
      rw [← hwF]
      have q0 := HYF.cells.1 0
      have q1 := HYF.cells.1 1
      have q2 := HYF.cells.1 2
      have q3 := HYF.cells.1 3
      have q4 := HYF.cells.1 4
      have q5 := HYF.cells.1 5
      have q6 := HYF.cells.1 6
      simp [stC] at q0 q1 q2 q3 q4 q5 q6
      clear hwF HYF
      refine bodyPost_ret (v := .tuple #[.agg (stC 0 0 0 0 0 0 (.slice none 0 0)), .bool false]) (by simp [results, Tryd.results23, go_sem, q0, q1, q2, q3, q4, q5, q6]) rfl ?_
      exact ⟨0, 0, 0, 0, 0, 0, none, 0, 0, by rw [HNO.out]; rfl, hbF, fun st h => by rw [HNO.out] at h; cases h⟩
    · have ti : (ix < 1) = False := eq_false hix
      have HSR := hid (sign_yes HIX2.out hix)
      obtain ⟨cHX4, fHX4, sHX4, nHX4⟩ := HX4.out.all
      try simp only [cbox] at cHX4
      obtain ⟨cHY4, fHY4, sHY4, nHY4⟩ := HY4.out.all
      try simp only [cbox] at cHY4
      go_upto_region 7 with fail
      -- STOP-r7
      go_region_held3 (fun w' => w'.cell? ⟨ba, oa, none⟩ = some (.string BW) ∧ w'.cell? ⟨ba, oa + 1, none⟩ = some (.string BX) ∧ w'.cell? ⟨ba, oa + 2, none⟩ = some (.string BY) ∧ w'.cell? ⟨ba, oa + 4, none⟩ = some (.string BZ)) ((repeat' (first | apply And.intro | (with_reducible assumption) | (with_reducible refine qsc_drew ?_) | (with_reducible refine qsc_alloc ?_) | (with_reducible refine qsc ?_ ?_)))) (fail)
      go_wp2_with fail
      -- STOP-j
      rw [← hw5]
      clear hw5 d0 d1 d2 d4
      clear cHX4 fHX4 sHX4 nHX4
      clear cHY4 fHY4 sHY4 nHY4
      refine (HWH.out _).mono ?_
      rintro e w6 ⟨NA, nn, nk, rfl, hb6, hns⟩
      have HB6 := hid (Below.step' HB5.out hb6)
      have HX6 := hid (HX5.out.step hb6)
      have HY6 := hid (HY5.out.step hb6)
      clear hb6
      cases hnr : numsR [x, y, z] with
      | none =>
        have HNO := hid (rstep_w2 HK.out (show whereR [x, y, o, z] = none by simp only [whereR]; rw [HSR.out, hnr]))
        clear hns hnr
        obtain ⟨cHX6, fHX6, sHX6, nHX6⟩ := HX6.out.all
        try simp only [cbox] at cHX6
        go_wp2_with fail
        -- STOP-z
        obtain ⟨wF, hwF⟩ : ∃ q, q = qset7 w6 w.heap.size (.int .i64 0) (.int .i64 0) (.int .i64 0) (.int .i64 0) (.int .i64 0) (.int .i64 0) (.slice none 0 0) := ⟨_, rfl⟩
        have HYF : Blk wF w.heap.size (stC 0 0 0 0 0 0 (.slice none 0 0)) 40 := by rw [hwF]; exact Blk.qset7 HX6.out _ _ _ _ _ _ _
        have hbF : Below w.heap.size w wF := by
          have hb0 := HB6.out
          rw [hwF]
          simp only [qset7]
          (repeat' (first | (with_reducible exact Below.refl _ _) | (with_reducible assumption) | (with_reducible refine below_drewN ?_ _) | (with_reducible refine Below.drew ?_) | (with_reducible refine Below.alloc ?_ ?_ _) | (with_reducible refine Below.setCell ?_ ?_ _) | (refine Below.trans ?_ (Below.mono (by assumption) ?_)) | go_size))
        have HWF := hid hwF
        simp only [qset7] at hwF
        rw [← hwF]
        have q0 := HYF.cells.1 0
        have q1 := HYF.cells.1 1
        have q2 := HYF.cells.1 2
        have q3 := HYF.cells.1 3
        have q4 := HYF.cells.1 4
        have q5 := HYF.cells.1 5
        have q6 := HYF.cells.1 6
        simp [stC] at q0 q1 q2 q3 q4 q5 q6
        clear hwF HYF
        refine bodyPost_ret (v := .tuple #[.agg (stC 0 0 0 0 0 0 (.slice none 0 0)), .bool false]) (by simp [results, Tryd.results23, go_sem, q0, q1, q2, q3, q4, q5, q6]) rfl ?_
        exact ⟨0, 0, 0, 0, 0, 0, none, 0, 0, by rw [HNO.out]; rfl, hbF, fun st h => by rw [HNO.out] at h; cases h⟩
      | some ns =>
        obtain ⟨rfl, hni⟩ := hns ns hnr
        obtain ⟨a, b, c, rfl⟩ : ∃ a b c, ns = [a, b, c] := by
          match ns, numsR_len hnr with
          | [a, b, c], _ => exact ⟨a, b, c, rfl⟩
        have HWY := hid (show whereR [x, y, o, z] = some (ix, [a, b, c]) by simp only [whereR]; rw [HSR.out, hnr])
        obtain ⟨g, off, rfl, hg, hgc⟩ : ∃ g off, NA = some ⟨g, off, none⟩ ∧ w5.heap.size ≤ g ∧ ∀ j u, (icells' [a, b, c])[j]? = some u → w6.cell? ⟨g, off + j, none⟩ = some u := by
          rcases hni.1 with e | ⟨g, off, e, h2, h3⟩
          · simp [icells'] at e
          · exact ⟨g, off, e, hni.2 g off none e, h3⟩
        have el2 : ([a, b, c] : List Int).length = 3 := rfl
        rw [el2]
        have g0 : w6.cell? ⟨g, off, none⟩ = some (.int .i64 a) := hgc 0 _ rfl
        have g1 : w6.cell? ⟨g, off + 1, none⟩ = some (.int .i64 b) := hgc 1 _ rfl
        have g2 : w6.cell? ⟨g, off + 2, none⟩ = some (.int .i64 c) := hgc 2 _ rfl
        have hgx : (w1.heap.size + 1 = g) = False := eq_false (by omega)
        have hgx' : (g = w1.heap.size + 1) = False := eq_false (by omega)
        clear hns hnr hni hgc el2
        obtain ⟨cHX6, fHX6, sHX6, nHX6⟩ := HX6.out.all
        try simp only [cbox] at cHX6
        obtain ⟨cHY6, fHY6, sHY6, nHY6⟩ := HY6.out.all
        try simp only [cbox] at cHY6
        go_wp2_with fail
        -- STOP-k0
        go_region_held3 (fun w' => w'.cell? ⟨g, off + 1, none⟩ = some (.int .i64 b) ∧ w'.cell? ⟨g, off + 2, none⟩ = some (.int .i64 c)) ((repeat' (first | apply And.intro | (with_reducible assumption) | (with_reducible refine qsc_drew ?_) | (with_reducible refine qsc_alloc ?_) | (with_reducible refine qsc ?_ ?_)))) (fail)
        obtain ⟨w7, hw7⟩ : ∃ q, q = World.drew (((w6.setCell ⟨w1.heap.size + 1, 1, none⟩ (.int .i64 a)).setCell ⟨w1.heap.size + 1, 3, none⟩ (.int .i64 b)).setCell ⟨w1.heap.size + 1, 5, none⟩ (.int .i64 c)) := ⟨_, rfl⟩
        have HX7 := hid (show Blk w7 w.heap.size (stC 0 0 0 0 0 0 (.slice none 0 0)) 40 by rw [hw7]; exact (Blk.other (Blk.other (Blk.other HX6.out (a := ⟨w1.heap.size + 1, 1, none⟩) (by simp; omega) _) (a := ⟨w1.heap.size + 1, 3, none⟩) (by simp; omega) _) (a := ⟨w1.heap.size + 1, 5, none⟩) (by simp; omega) _))
        have HY7 := hid (show Blk w7 (w1.heap.size + 1) (stC 2 a 0 b ix c (.slice none 0 0)) 40 by rw [hw7]; exact ((HY6.out.set 1 (.int .i64 a)).set 3 (.int .i64 b)).set 5 (.int .i64 c))
        have HB7 := hid (show Below w.heap.size w w7 by rw [hw7]; exact (((HB6.out.setCell (p := ⟨w1.heap.size + 1, 1, none⟩) (by simp; omega) _).setCell (p := ⟨w1.heap.size + 1, 3, none⟩) (by simp; omega) _).setCell (p := ⟨w1.heap.size + 1, 5, none⟩) (by simp; omega) _).drew)
        have hsz7 : w1.heap.size + 1 < w7.heap.size := HY7.out.lt
        rw [← hw7]
        clear hw7 g0 g1 g2
        clear cHX6 fHX6 sHX6 nHX6
        clear cHY6 fHY6 sHY6 nHY6
        obtain ⟨cHX7, fHX7, sHX7, nHX7⟩ := HX7.out.all
        try simp only [cbox] at cHX7
        obtain ⟨cHY7, fHY7, sHY7, nHY7⟩ := HY7.out.all
        try simp only [cbox] at cHY7
        go_wp2_with fail
        -- STOP-k
        obtain ⟨wF, hwF⟩ : ∃ q, q = qset7 w7 w.heap.size (.int .i64 2) (.int .i64 a) (.int .i64 0) (.int .i64 b) (.int .i64 ix) (.int .i64 c) (.slice none 0 0) := ⟨_, rfl⟩
        have HYF : Blk wF w.heap.size (stC 2 a 0 b ix c (.slice none 0 0)) 40 := by rw [hwF]; exact Blk.qset7 HX7.out _ _ _ _ _ _ _
        have hbF : Below w.heap.size w wF := by
          have hb0 := HB7.out
          rw [hwF]
          simp only [qset7]
          (repeat' (first | (with_reducible exact Below.refl _ _) | (with_reducible assumption) | (with_reducible refine below_drewN ?_ _) | (with_reducible refine Below.drew ?_) | (with_reducible refine Below.alloc ?_ ?_ _) | (with_reducible refine Below.setCell ?_ ?_ _) | (refine Below.trans ?_ (Below.mono (by assumption) ?_)) | go_size))
        have HWF := hid hwF
        simp only [qset7] at hwF
        rw [← hwF]
        have q0 := HYF.cells.1 0
        have q1 := HYF.cells.1 1
        have q2 := HYF.cells.1 2
        have q3 := HYF.cells.1 3
        have q4 := HYF.cells.1 4
        have q5 := HYF.cells.1 5
        have q6 := HYF.cells.1 6
        simp [stC] at q0 q1 q2 q3 q4 q5 q6
        clear hwF HYF
        refine bodyPost_ret (v := .tuple #[.agg (stC 2 a 0 b ix c (.slice none 0 0)), .bool true]) (by simp [results, Tryd.results23, go_sem, q0, q1, q2, q3, q4, q5, q6]) rfl ?_
        have hy : stepR [v, x, y, o, z] = some ⟨2, a, 0, b, ix, c, []⟩ := rstep_where HK.out HWY.out
        exact ⟨2, a, 0, b, ix, c, none, 0, 0, by rw [hy]; rfl, hbF, fun st h => ⟨[], by rw [hy] at h; exact (Option.some.inj h).symm, rfl, NewInts.nil _ _⟩⟩
  · have tn : ((n : Int) + 1 == 5) = false := beq_eq_false_iff_ne.2 (by omega)
    have HNO := hid (rstep_w2 HK.out (whereR_len (by rw [hn]; exact hn1)))
    obtain ⟨w2, hw2⟩ : ∃ q, q = w1.alloc (.cells #[.int .i64 0, .int .i64 2, .int .i64 5, .int .i64 3, .int .i64 5, .int .i64 3, .int .i64 3, .int .i64 2, .int .i64 3, .int .i64 4] 3) := ⟨_, rfl⟩
    have HB2 := hid (show Below w.heap.size w w2 by rw [hw2]; exact HB01.out.alloc HB01.out.size _)
    have HX2 := hid (show Blk w2 w.heap.size (stC 0 0 0 0 0 0 (.slice none 0 0)) 40 by rw [hw2]; exact HX1.out.alloc _)
    go_upto_region 3 with fail
    rw [← hw2]
    clear hw2
    obtain ⟨cHX2, fHX2, sHX2, nHX2⟩ := HX2.out.all
    try simp only [cbox] at cHX2
    go_wp2_with fail
    -- STOP-z
    obtain ⟨wF, hwF⟩ : ∃ q, q = qset7 w2 w.heap.size (.int .i64 0) (.int .i64 0) (.int .i64 0) (.int .i64 0) (.int .i64 0) (.int .i64 0) (.slice none 0 0) := ⟨_, rfl⟩
    have HYF : Blk wF w.heap.size (stC 0 0 0 0 0 0 (.slice none 0 0)) 40 := by rw [hwF]; exact Blk.qset7 HX2.out _ _ _ _ _ _ _
    have hbF : Below w.heap.size w wF := by
      have hb0 := HB2.out
      rw [hwF]
      simp only [qset7]
      (repeat' (first | (with_reducible exact Below.refl _ _) | (with_reducible assumption) | (with_reducible refine below_drewN ?_ _) | (with_reducible refine Below.drew ?_) | (with_reducible refine Below.alloc ?_ ?_ _) | (with_reducible refine Below.setCell ?_ ?_ _) | (refine Below.trans ?_ (Below.mono (by assumption) ?_)) | go_size))
    have HWF := hid hwF
    simp only [qset7] at hwF
    rw [← hwF]
    have q0 := HYF.cells.1 0
    have q1 := HYF.cells.1 1
    have q2 := HYF.cells.1 2
    have q3 := HYF.cells.1 3
    have q4 := HYF.cells.1 4
    have q5 := HYF.cells.1 5
    have q6 := HYF.cells.1 6
    simp [stC] at q0 q1 q2 q3 q4 q5 q6
    clear hwF HYF
    refine bodyPost_ret (v := .tuple #[.agg (stC 0 0 0 0 0 0 (.slice none 0 0)), .bool false]) (by simp [results, Tryd.results23, go_sem, q0, q1, q2, q3, q4, q5, q6]) rfl ?_
    exact ⟨0, 0, 0, 0, 0, 0, none, 0, 0, by rw [HNO.out]; rfl, hbF, fun st h => by rw [HNO.out] at h; cases h⟩
set_option maxHeartbeats 8000000 in
set_option maxRecDepth 100000 in
theorem rstep_k3 (hWC : WholeC) (v : List UInt8) (r : List (List UInt8)) (A : Option Addr) (cp n : Nat) (hn : r.length = n) (w : World) (hw : WRow w A (v :: r)) (hl : n ≤ 1999) (hcp : n + 1 ≤ cp) (hv : VerbsAt w) (hk : kindR v = 3) :
    Calls Tryd.prog 23 #[.slice A (n + 1) cp] w (StepPost (v :: r) w) := by
  have HW := hid hw
  have HV := hid hv
  have HWC := hid hWC
  obtain ⟨ba, oa, rfl, hba, hc0⟩ := HW.out.get (i := 0) (by simp)
  obtain ⟨W, hW⟩ : ∃ q, q = w.alloc (.cells (stC 0 0 0 0 0 0 (.slice none 0 0)) 40) := ⟨_, rfl⟩
  have HB := hid (show Below w.heap.size w W by rw [hW]; exact (Below.refl _ _).alloc (Nat.le_refl _) _)
  have HX := hid (show Blk W w.heap.size (stC 0 0 0 0 0 0 (.slice none 0 0)) 40 by rw [hW]; exact Blk.new _ _ _)
  have hc0' : W.cell? ⟨ba, oa, none⟩ = some (.string (bstr v)) := ((bcell HB.out).1 _ _ hba).trans hc0
  have hbw : ba < W.heap.size := Nat.lt_of_lt_of_le hba HB.out.size
  have HI := hid (fun w1 (hb : Below W.heap.size W w1) => indexS_any verbsL (some ⟨0, 0, none⟩) 10 v w1 (verbs_row ((HV.out.step HB.out).step hb)) (by decide))
  have ev : verbsL.length = 10 := rfl
  rw [ev] at HI
  obtain ⟨BV, hBV⟩ : ∃ q, q = bstr v := ⟨_, rfl⟩
  rw [← hBV] at HI hc0'
  have hiv : idxR verbsL v = 3 := by
    rcases idxR_verbs v with h | h
    · omega
    · omega
  rw [hiv] at HI
  have h1n : (1 : Int) ≤ ((n + 1 : Nat) : Int) := by omega
  have HK := hid hk
  have hle : w.heap.size < W.heap.size := HX.out.lt
  clear hw hv hWC hc0 ev hBV hk
  go_enter Tryd.func23, Tryd.ntmps23
  go_upto_region 1 with fail
  rw [← hW]
  clear hW
  refine region_ext (by kernel_rfl) (by kernel_rfl) (fun hext => ?_)
  repeat (any_goals ((with_reducible refine wpQuiet_step (fun K hK => ?_)); go_simp; first | (with_reducible refine hK _ ?_; clear hK K) | ((with_reducible apply Exists.intro); (with_reducible refine ⟨fun _ => ?_, hK _ ?_⟩); ((go_at_call 37; (with_reducible refine ext_call _ ?_ (HI.out _ (Ext.below _))); simp)); clear hK K) | ((with_reducible refine (if_neg ?_).mpr (hK _ ?_)); (decide); clear hK K) | (split <;> (with_reducible refine hK _ ?_; clear hK K))))
  all_goals ((with_reducible refine wpQuiet_nil ?_); clear hext; intro w1 hx1; have hb1 := ext_below hx1; clear hx1)
  have HB1 := hid hb1
  have HX1 := hid (HX.out.step hb1)
  have hle1 : w.heap.size < w1.heap.size := HX1.out.lt
  have HB01 := hid (Below.step' HB.out hb1)
  clear hb1 hc0' HI
  go_upto_region 2 with fail
  by_cases hn1 : n = 2
  · subst hn1
    obtain ⟨x, y, rfl⟩ : ∃ x y, r = [x, y] := by
      match r, hn with
      | [x, y], _ => exact ⟨x, y, rfl⟩
    clear hn
    have hcp1 : (1 : Int) ≤ (cp : Int) := by omega
    have hcp' : (3 : Int) ≤ (cp : Int) := by omega
    have hcpn : (cp = 1) = False := eq_false (by omega)
    have hbw1 : ba < w1.heap.size := Nat.lt_of_lt_of_le hba HB01.out.size
    have hcw : ∀ (j : Nat) (l : List UInt8), [v, x, y][j]? = some l → w1.cell? ⟨ba, oa + j, none⟩ = some (.string (bstr l)) := fun j l h => by
      rcases (HW.out.step HB01.out).2 with e | ⟨b', o', e, h2, h3⟩
      · simp [wcells] at e
      · obtain ⟨rfl, rfl, -⟩ := Addr.mk.inj (Option.some.inj e)
        exact h3 j _ (by simp only [wcells, List.getElem?_map, h, Option.map_some])
    have HWL := hid HW.out.1
    have nw0 : (ba = w1.heap.size) = False := eq_false (by omega)
    have nw1 : (ba = w1.heap.size + 1) = False := eq_false (by omega)
    have nw2 : (ba = w1.heap.size + 1 + 1) = False := eq_false (by omega)
    obtain ⟨w2, hw2⟩ : ∃ q, q = (w1.alloc (.cells #[.int .i64 0, .int .i64 2, .int .i64 5, .int .i64 3, .int .i64 5, .int .i64 3, .int .i64 3, .int .i64 2, .int .i64 3, .int .i64 4] 3)).alloc (.cells (stC 3 0 0 0 0 0 (.slice none 0 0)) 40) := ⟨_, rfl⟩
    have HB12 := hid (show Below w1.heap.size w1 w2 by rw [hw2]; exact alloc_below (alloc_below (Below.refl _ _) _) _)
    have HX2 := hid (show Blk w2 w.heap.size (stC 0 0 0 0 0 0 (.slice none 0 0)) 40 by rw [hw2]; exact (HX1.out.alloc _).alloc _)
    have HY2 := hid (show Blk w2 (w1.heap.size + 1) (stC 3 0 0 0 0 0 (.slice none 0 0)) 40 by rw [hw2]; exact Blk.new' _ _ _ (by simp))
    have hbw2 : ba < w2.heap.size := Nat.lt_of_lt_of_le hbw1 HB12.out.size
    have HB2 := hid (Below.step' HB01.out HB12.out)
    obtain ⟨BY, hBY⟩ : ∃ q, q = bstr y := ⟨_, rfl⟩
    have d2 : w2.cell? ⟨ba, oa + 2, none⟩ = some (.string BY) := by rw [hBY]; exact ((bcell HB12.out).1 _ _ hbw1).trans (hcw 2 y rfl)
    have hyl := HWL.out y (by simp)
    have HYL := hid hyl
    have HPC := hid (rpieces_any y hyl 44 w2)
    rw [← hBY] at HPC
    have hp44 : (44 : UInt8).toNat = 44 := rfl
    rw [hp44] at HPC
    obtain ⟨PS, hPS⟩ : ∃ q, q = pcs 44 y := ⟨_, rfl⟩
    rw [← hPS] at HPC
    have HPS := hid hPS
    have hpl := pcs_len 44 y
    rw [← hPS] at hpl
    have HPL := hid hpl
    clear hcw hBY hyl hp44 hPS hpl
    go_upto_region 11 with fail
    -- STOP-d3
    rw [← hw2]
    clear hw2
    go_wp2_with fail
    -- STOP-e3
    refine HPC.out.mono ?_
    rintro e w3 ⟨PA, pk, rfl, hpo, hb3⟩
    have HB23 := hid hb3
    have HX3 := hid (HX2.out.step hb3)
    have HY3 := hid (HY2.out.step hb3)
    have HB3 := hid (Below.step' HB2.out hb3)
    have HW1 := hid (rwholes_any HWC.out PS PA pk w3 ⟨fun l hl => by have := HPL.out.2 l hl; have := HYL.out; omega, Row.of_ownS hpo⟩ (by have := HPL.out.1; have := HYL.out; omega))
    clear hb3 hpo HPC d2
    go_wp2_with fail
    -- STOP-f3
    refine HW1.out.mono ?_
    rintro e w4 ⟨LA, ln, lk, rfl, hb4, hls⟩
    have HB34 := hid hb4
    have HX4 := hid (HX3.out.step hb4)
    have HY4 := hid (HY3.out.step hb4)
    have HB4 := hid (Below.step' HB3.out hb4)
    have hsz4 : w1.heap.size + 1 < w4.heap.size := HY4.out.lt
    have hsz3 : w1.heap.size + 1 < w3.heap.size := HY3.out.lt
    clear hb4 HW1
    cases hpr : numsR PS with
    | none =>
      have HNO := hid (rstep_p2 HK.out (show pickW [x, y] = none by simp only [pickW]; rw [← HPS.out, hpr]; cases numR x <;> rfl))
      clear hls hpr
      obtain ⟨cHX4, fHX4, sHX4, nHX4⟩ := HX4.out.all
      try simp only [cbox] at cHX4
      go_wp2_with fail
      -- STOP-z
      obtain ⟨wF, hwF⟩ : ∃ q, q = qset7 w4 w.heap.size (.int .i64 0) (.int .i64 0) (.int .i64 0) (.int .i64 0) (.int .i64 0) (.int .i64 0) (.slice none 0 0) := ⟨_, rfl⟩
      have HYF : Blk wF w.heap.size (stC 0 0 0 0 0 0 (.slice none 0 0)) 40 := by rw [hwF]; exact Blk.qset7 HX4.out _ _ _ _ _ _ _
      have hbF : Below w.heap.size w wF := by
        have hb0 := HB4.out
        rw [hwF]
        simp only [qset7]
        (repeat' (first | (with_reducible exact Below.refl _ _) | (with_reducible assumption) | (with_reducible refine below_drewN ?_ _) | (with_reducible refine Below.drew ?_) | (with_reducible refine Below.alloc ?_ ?_ _) | (with_reducible refine Below.setCell ?_ ?_ _) | (refine Below.trans ?_ (Below.mono (by assumption) ?_)) | go_size))
      have HWF := hid hwF
      simp only [qset7] at hwF
      rw [← hwF]
      have q0 := HYF.cells.1 0
      have q1 := HYF.cells.1 1
      have q2 := HYF.cells.1 2
      have q3 := HYF.cells.1 3
      have q4 := HYF.cells.1 4
      have q5 := HYF.cells.1 5
      have q6 := HYF.cells.1 6
      simp [stC] at q0 q1 q2 q3 q4 q5 q6
      clear hwF HYF
      refine bodyPost_ret (v := .tuple #[.agg (stC 0 0 0 0 0 0 (.slice none 0 0)), .bool false]) (by simp [results, Tryd.results23, go_sem, q0, q1, q2, q3, q4, q5, q6]) rfl ?_
      exact ⟨0, 0, 0, 0, 0, 0, none, 0, 0, by rw [HNO.out]; rfl, hbF, fun st h => by rw [HNO.out] at h; cases h⟩
    | some pl =>
      obtain ⟨rfl, hni⟩ := hls pl hpr
      have HNI := hid hni
      have HPR := hid hpr
      obtain ⟨w5, hw5⟩ : ∃ q, q = w4.setCell ⟨w1.heap.size + 1, 6, none⟩ (.slice LA pl.length lk) := ⟨_, rfl⟩
      have HB5 := hid (show Below w.heap.size w w5 by rw [hw5]; exact HB4.out.setCell (p := ⟨w1.heap.size + 1, 6, none⟩) (by simp; omega) _)
      have HX5 := hid (show Blk w5 w.heap.size (stC 0 0 0 0 0 0 (.slice none 0 0)) 40 by rw [hw5]; exact HX4.out.other (by simp; omega) _)
      have HY5 := hid (show Blk w5 (w1.heap.size + 1) (stC 3 0 0 0 0 0 (.slice LA pl.length lk)) 40 by rw [hw5]; exact HY4.out.set 6 _)
      have HN5 := hid (show NewInts w5 w3.heap.size LA pl by rw [hw5]; exact HNI.out.set hsz3 6 _)
      have HWX := hid (show WRow w5 (some ⟨ba, oa + 1, none⟩) [x] from ⟨fun l hl => HWL.out l (by simp at hl; simp [hl]), .inr ⟨ba, oa + 1, rfl, by have := HB5.out.size; omega, fun j u hu => by
        match j, hu with
        | 0, hu =>
          cases hu
          rcases (HW.out.step HB5.out).2 with e | ⟨b', o', e, h2, h3⟩
          · simp [wcells] at e
          · obtain ⟨rfl, rfl, -⟩ := Addr.mk.inj (Option.some.inj e)
            exact h3 1 _ rfl⟩⟩)
      have HWH := hid (fun c1 => rwholes_any HWC.out [x] (some ⟨ba, oa + 1, none⟩) c1 w5 HWX.out (by simp))
      have el : ([x] : List (List UInt8)).length = 1 := rfl
      rw [el] at HWH
      have hcp2 : (2 : Int) ≤ (cp : Int) := by omega
      clear hls hpr hni el
      obtain ⟨cHY4, fHY4, sHY4, nHY4⟩ := HY4.out.all
      try simp only [cbox] at cHY4
      go_wp2_with fail
      -- STOP-g3
      rw [← hw5]
      clear hw5
      clear cHY4 fHY4 sHY4 nHY4
      refine (HWH.out _).mono ?_
      rintro e w6 ⟨NA, nn, nk, rfl, hb6, hns⟩
      have HB6 := hid (Below.step' HB5.out hb6)
      have HX6 := hid (HX5.out.step hb6)
      have HY6 := hid (HY5.out.step hb6)
      have HN6 := hid (show NewInts w6 w3.heap.size LA pl from ⟨HN5.out.1.step hb6, HN5.out.2⟩)
      have hsz5 : w1.heap.size + 1 < w5.heap.size := HY5.out.lt
      clear hb6 HWH
      cases hnr : numsR [x] with
      | none =>
        have HNO := hid (rstep_p2 HK.out (show pickW [x, y] = none by
          simp only [numsR] at hnr
          simp only [pickW]
          cases hx : numR x with
          | none => rfl
          | some n => rw [hx] at hnr; simp at hnr))
        clear hns hnr
        obtain ⟨cHX6, fHX6, sHX6, nHX6⟩ := HX6.out.all
        try simp only [cbox] at cHX6
        go_wp2_with fail
        -- STOP-z
        obtain ⟨wF, hwF⟩ : ∃ q, q = qset7 w6 w.heap.size (.int .i64 0) (.int .i64 0) (.int .i64 0) (.int .i64 0) (.int .i64 0) (.int .i64 0) (.slice none 0 0) := ⟨_, rfl⟩
        have HYF : Blk wF w.heap.size (stC 0 0 0 0 0 0 (.slice none 0 0)) 40 := by rw [hwF]; exact Blk.qset7 HX6.out _ _ _ _ _ _ _
        have hbF : Below w.heap.size w wF := by
          have hb0 := HB6.out
          rw [hwF]
          simp only [qset7]
          (repeat' (first | (with_reducible exact Below.refl _ _) | (with_reducible assumption) | (with_reducible refine below_drewN ?_ _) | (with_reducible refine Below.drew ?_) | (with_reducible refine Below.alloc ?_ ?_ _) | (with_reducible refine Below.setCell ?_ ?_ _) | (refine Below.trans ?_ (Below.mono (by assumption) ?_)) | go_size))
        have HWF := hid hwF
        simp only [qset7] at hwF
        rw [← hwF]
        have q0 := HYF.cells.1 0
        have q1 := HYF.cells.1 1
        have q2 := HYF.cells.1 2
        have q3 := HYF.cells.1 3
        have q4 := HYF.cells.1 4
        have q5 := HYF.cells.1 5
        have q6 := HYF.cells.1 6
        simp [stC] at q0 q1 q2 q3 q4 q5 q6
        clear hwF HYF
        refine bodyPost_ret (v := .tuple #[.agg (stC 0 0 0 0 0 0 (.slice none 0 0)), .bool false]) (by simp [results, Tryd.results23, go_sem, q0, q1, q2, q3, q4, q5, q6]) rfl ?_
        exact ⟨0, 0, 0, 0, 0, 0, none, 0, 0, by rw [HNO.out]; rfl, hbF, fun st h => by rw [HNO.out] at h; cases h⟩
      | some ns =>
        obtain ⟨rfl, hni⟩ := hns ns hnr
        obtain ⟨a, rfl⟩ : ∃ a, ns = [a] := by
          match ns, numsR_len hnr with
          | [a], _ => exact ⟨a, rfl⟩
        have hy : stepR [v, x, y] = some ⟨3, a, 0, 0, 0, 0, pl⟩ := rstep_pick HK.out (show pickW [x, y] = some (a, pl) by
          have hx : numR x = some a := by
            simp only [numsR] at hnr
            cases hx : numR x with
            | none => rw [hx] at hnr; simp at hnr
            | some n => rw [hx] at hnr; simp at hnr; rw [hnr]
          simp only [pickW]
          rw [hx, ← HPS.out, HPR.out])
        have HY := hid hy
        obtain ⟨g, off, rfl, hg, hgc⟩ : ∃ g off, NA = some ⟨g, off, none⟩ ∧ w5.heap.size ≤ g ∧ ∀ j u, (icells' [a])[j]? = some u → w6.cell? ⟨g, off + j, none⟩ = some u := by
          rcases hni.1 with e | ⟨g, off, e, h2, h3⟩
          · simp [icells'] at e
          · exact ⟨g, off, e, hni.2 g off none e, h3⟩
        have el2 : ([a] : List Int).length = 1 := rfl
        rw [el2]
        have g0 : w6.cell? ⟨g, off, none⟩ = some (.int .i64 a) := hgc 0 _ rfl
        obtain ⟨pn, hpn⟩ : ∃ q, q = pl.length := ⟨_, rfl⟩
        rw [← hpn] at HY6
        have HPN := hid hpn
        clear hns hnr hni hgc el2 hy hpn
        obtain ⟨cHX6, fHX6, sHX6, nHX6⟩ := HX6.out.all
        try simp only [cbox] at cHX6
        obtain ⟨cHY6, fHY6, sHY6, nHY6⟩ := HY6.out.all
        try simp only [cbox] at cHY6
        go_wp2_with fail
        -- STOP-k3
        obtain ⟨wF, hwF⟩ : ∃ q, q = qset7 (w6.setCell ⟨w1.heap.size + 1, 1, none⟩ (.int .i64 a)) w.heap.size (.int .i64 3) (.int .i64 a) (.int .i64 0) (.int .i64 0) (.int .i64 0) (.int .i64 0) (.slice LA pn lk) := ⟨_, rfl⟩
        have HYF : Blk wF w.heap.size (stC 3 a 0 0 0 0 (.slice LA pn lk)) 40 := by rw [hwF]; exact Blk.qset7 (Blk.other HX6.out (a := ⟨w1.heap.size + 1, 1, none⟩) (by simp; omega) _) _ _ _ _ _ _ _
        have hbF : Below w.heap.size w wF := by
          have hb0 := HB6.out
          rw [hwF]
          simp only [qset7]
          (repeat' (first | (with_reducible exact Below.refl _ _) | (with_reducible assumption) | (with_reducible refine below_drewN ?_ _) | (with_reducible refine Below.drew ?_) | (with_reducible refine Below.alloc ?_ ?_ _) | (with_reducible refine Below.setCell ?_ ?_ _) | (refine Below.trans ?_ (Below.mono (by assumption) ?_)) | go_size))
        have HWF := hid hwF
        simp only [qset7] at hwF
        rw [← hwF]
        have q0 := HYF.cells.1 0
        have q1 := HYF.cells.1 1
        have q2 := HYF.cells.1 2
        have q3 := HYF.cells.1 3
        have q4 := HYF.cells.1 4
        have q5 := HYF.cells.1 5
        have q6 := HYF.cells.1 6
        simp [stC] at q0 q1 q2 q3 q4 q5 q6
        clear hwF HYF
        refine bodyPost_ret (v := .tuple #[.agg (stC 3 a 0 0 0 0 (.slice LA pn lk)), .bool true]) (by simp [results, Tryd.results23, go_sem, q0, q1, q2, q3, q4, q5, q6]) rfl ?_
        refine ⟨3, a, 0, 0, 0, 0, LA, pn, lk, by rw [HY.out]; rfl, hbF, fun st h => ⟨pl, by rw [HY.out] at h; exact (Option.some.inj h).symm, HPN.out, ?_⟩⟩
        rw [HWF.out]
        have e6 : NewInts (w6.setCell ⟨w1.heap.size + 1, 1, none⟩ (.int .i64 a)) w3.heap.size LA pl := HN6.out.set hsz3 1 _
        exact ((((((((e6.set (by omega) 0 _).set (by omega) 1 _).set (by omega) 2 _).set (by omega) 3 _).set (by omega) 4 _).set (by omega) 5 _).set (by omega) 6 _).mono (by omega))
  · have tn : ((n : Int) + 1 == 3) = false := beq_eq_false_iff_ne.2 (by omega)
    have HNO := hid (rstep_p2 HK.out (pickW_len (by rw [hn]; exact hn1)))
    obtain ⟨w2, hw2⟩ : ∃ q, q = w1.alloc (.cells #[.int .i64 0, .int .i64 2, .int .i64 5, .int .i64 3, .int .i64 5, .int .i64 3, .int .i64 3, .int .i64 2, .int .i64 3, .int .i64 4] 3) := ⟨_, rfl⟩
    have HB2 := hid (show Below w.heap.size w w2 by rw [hw2]; exact HB01.out.alloc HB01.out.size _)
    have HX2 := hid (show Blk w2 w.heap.size (stC 0 0 0 0 0 0 (.slice none 0 0)) 40 by rw [hw2]; exact HX1.out.alloc _)
    go_upto_region 3 with fail
    rw [← hw2]
    clear hw2
    obtain ⟨cHX2, fHX2, sHX2, nHX2⟩ := HX2.out.all
    try simp only [cbox] at cHX2
    go_wp2_with fail
    -- STOP-z
    obtain ⟨wF, hwF⟩ : ∃ q, q = qset7 w2 w.heap.size (.int .i64 0) (.int .i64 0) (.int .i64 0) (.int .i64 0) (.int .i64 0) (.int .i64 0) (.slice none 0 0) := ⟨_, rfl⟩
    have HYF : Blk wF w.heap.size (stC 0 0 0 0 0 0 (.slice none 0 0)) 40 := by rw [hwF]; exact Blk.qset7 HX2.out _ _ _ _ _ _ _
    have hbF : Below w.heap.size w wF := by
      have hb0 := HB2.out
      rw [hwF]
      simp only [qset7]
      (repeat' (first | (with_reducible exact Below.refl _ _) | (with_reducible assumption) | (with_reducible refine below_drewN ?_ _) | (with_reducible refine Below.drew ?_) | (with_reducible refine Below.alloc ?_ ?_ _) | (with_reducible refine Below.setCell ?_ ?_ _) | (refine Below.trans ?_ (Below.mono (by assumption) ?_)) | go_size))
    have HWF := hid hwF
    simp only [qset7] at hwF
    rw [← hwF]
    have q0 := HYF.cells.1 0
    have q1 := HYF.cells.1 1
    have q2 := HYF.cells.1 2
    have q3 := HYF.cells.1 3
    have q4 := HYF.cells.1 4
    have q5 := HYF.cells.1 5
    have q6 := HYF.cells.1 6
    simp [stC] at q0 q1 q2 q3 q4 q5 q6
    clear hwF HYF
    refine bodyPost_ret (v := .tuple #[.agg (stC 0 0 0 0 0 0 (.slice none 0 0)), .bool false]) (by simp [results, Tryd.results23, go_sem, q0, q1, q2, q3, q4, q5, q6]) rfl ?_
    exact ⟨0, 0, 0, 0, 0, 0, none, 0, 0, by rw [HNO.out]; rfl, hbF, fun st h => by rw [HNO.out] at h; cases h⟩
end Go.Proofs.YtamlaeocojcgdaaDoor
