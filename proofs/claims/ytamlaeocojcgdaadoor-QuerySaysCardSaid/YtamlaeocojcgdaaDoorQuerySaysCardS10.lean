/- RwB, QtH, QtI -/
import Derived.Test.YtamlaeocojcgdaaDoorQuerySaysCardS09
import Derived.Deep.CutBlock
import Derived.Deep.CutRange
/- viewref.Query, viewref.Based. -/
namespace Go.Proofs.YtamlaeocojcgdaaDoor
set_option linter.unusedVariables false
set_option linter.unusedSimpArgs false
open Go.ChangeShapes Go.WideShapes Go.ChangeAt Go.RowKit

set_option maxHeartbeats 1000000 in
set_option maxRecDepth 100000 in
theorem Rquery_any (L : List SR) (A : Option Addr) (c : Nat) (w : World) (hr : RowS w w.heap.size A L) (hl : L.length ≤ 9223372036854775807) :
    Calls Tryd.prog 6 #[.slice A L.length c] w fun e w' => e = .returned (.int .i64 (queryE (sts L))) ∧ Below w.heap.size w w' := by
  have HE := hid (show queryE (sts L) = if L.length = 0 then 1 else if 8 < L.length then 2 else if widsL (sts L) [] = none then 1 else 0 by unfold queryE; rw [List.length_map])
  have HW := hid (fun h : L.length ≤ 8 => Rwidths_any L A c w hr h)
  clear hr
  obtain ⟨E, hE⟩ : ∃ q, q = queryE (sts L) := ⟨_, rfl⟩
  rw [← hE] at HE ⊢
  clear hE
  go_enter Tryd.func6, Tryd.ntmps6
  by_cases h0 : L.length = 0
  · have t1 : ((L.length : Int) == 0) = true := by simp [h0]
    have HD := hid (show E = 1 by rw [HE.out, if_pos h0])
    clear h0
    go_wp2_with fail
    go_ret
    exact ⟨ret_int HD.out.symm, Below.refl _ _⟩
  have t1 : ((L.length : Int) == 0) = false := by simpa using h0
  by_cases h8 : 8 < L.length
  · have t2 : ((8 : Int) < (L.length : Int)) = True := eq_true (by omega)
    have HD := hid (show E = 2 by rw [HE.out, if_neg h0, if_pos h8])
    clear h0 h8
    go_wp2_with fail
    go_ret
    exact ⟨ret_int HD.out.symm, Below.refl _ _⟩
  have t2 : ((8 : Int) < (L.length : Int)) = False := eq_false (by omega)
  have HD := hid (show E = if widsL (sts L) [] = none then 1 else 0 by rw [HE.out, if_neg h0, if_neg h8])
  have HC := hid (HW.out (by omega))
  clear h0 h8 HW HE
  go_wp2_with fail
  -- STOP-a
  refine HC.out.mono ?_
  rintro e w1 ⟨hb1, (⟨hn, rfl⟩ | ⟨V, v, hn, rfl, -⟩)⟩
  · have HB := hid hb1
    have HF := hid (show E = 1 by rw [HD.out, if_pos hn])
    clear hb1 hn HC
    go_wp2_with fail
    go_ret
    exact ⟨ret_int HF.out.symm, HB.out⟩
  · have HB := hid hb1
    have HF := hid (show E = 0 by rw [HD.out, hn, if_neg (by simp)])
    clear hb1 hn HC
    go_wp2_with fail
    go_ret
    exact ⟨ret_int HF.out.symm, HB.out⟩
end Go.Proofs.YtamlaeocojcgdaaDoor
/- viewlaw.QuerySays, given viewref.QueryText. -/
namespace Go.Proofs.YtamlaeocojcgdaaDoor
set_option linter.unusedVariables false
set_option linter.unusedSimpArgs false
open Go.ChangeShapes Go.WideShapes Go.ChangeAt Go.RowKit

set_option maxHeartbeats 4000000 in
set_option maxRecDepth 100000 in
theorem querySays_over (L : List SR) (A : Option Addr) (c : Nat) (i : Int) (w : World) (hr : RowS w w.heap.size A L) (hl : L.length ≤ 9223372036854775807) (ht : Pow w)
    (HQT : ∀ w1, Below w.heap.size w w1 → queryE (sts L) = 0 → Calls Tryd.prog 7 #[.slice A L.length c] w1 fun e w' => e = .returned (.string (bstr (queryT (sts L)))) ∧ Below w1.heap.size w1 w') :
    Calls Tryd.prog 3 #[.slice A L.length c, .int .i64 i] w fun e w' => e = .returned (.bool true) ∧ Below w.heap.size w w' := by
  have H1 := hid (Rquery_any L A c w hr hl)
  have H2 := hid HQT
  have H3 := hid (fun w1 (hb : Below w.heap.size w w1) (h8 : L.length ≤ 8) => Rwidths_any L A c w1 (hr.step hb) h8)
  have H4 := hid (fun w1 (hb : Below w.heap.size w w1) => qprint_any L A c w1 (hr.step hb) hl (Pow.step ht hb))
  have H5 := hid (fun w1 (hb : Below w.heap.size w w1) => qwidth_any L A c i w1 (hr.step hb) hl)
  have H6 := hid (fun w1 (hb : Below w.heap.size w w1) => qcheck_any L A c w1 (hr.step hb) hl)
  have HP := hid (show printT (sts L) = if queryE (sts L) = 0 then queryT (sts L) else [] from rfl)
  have HN := hid (show widthN (sts L) i = if queryE (sts L) = 0 ∧ 0 ≤ i ∧ i < (L.length : Int) then (queryW (sts L)).getD i.toNat 0 else 0 by unfold widthN; rw [List.length_map])
  have HE := hid (show widthE (sts L) i = if queryE (sts L) ≠ 0 then queryE (sts L) else if 0 ≤ i ∧ i < (L.length : Int) then 0 else 4 by unfold widthE; rw [List.length_map])
  have HW := hid (show queryW (sts L) = if queryE (sts L) = 0 then (widsL (sts L) []).getD [] else [] from rfl)
  have HQ0 := hid (fun h : queryE (sts L) = 0 => (show L.length ≤ 8 ∧ 0 < L.length ∧ widsL (sts L) [] ≠ none by
    obtain ⟨h1, h2, W, hW⟩ := queryE_zero.1 h
    rw [List.length_map] at h1 h2
    exact ⟨h2, h1, by rw [hW]; simp⟩))
  have HQL := hid (fun h : queryE (sts L) = 0 => (queryW_len h).trans (List.length_map ..))
  clear hr ht HQT
  obtain ⟨E, hE⟩ : ∃ q, q = queryE (sts L) := ⟨_, rfl⟩
  obtain ⟨PT, hPT⟩ : ∃ q, q = printT (sts L) := ⟨_, rfl⟩
  obtain ⟨QT, hQT⟩ : ∃ q, q = queryT (sts L) := ⟨_, rfl⟩
  obtain ⟨N1, hN1⟩ : ∃ q, q = widthN (sts L) i := ⟨_, rfl⟩
  obtain ⟨E1, hE1⟩ : ∃ q, q = widthE (sts L) i := ⟨_, rfl⟩
  obtain ⟨V, hV⟩ : ∃ q, q = queryW (sts L) := ⟨_, rfl⟩
  simp only [← hE, ← hPT, ← hQT, ← hN1, ← hE1, ← hV] at H1 H2 H3 H4 H5 H6 HP HN HE HW HQ0 HQL
  clear hE hPT hQT hN1 hE1 hV
  go_enter Tryd.func3, Tryd.ntmps3
  go_wp2_with fail
  -- STOP-a
  refine H1.out.mono ?_
  rintro e w1 ⟨rfl, hb1⟩
  have HB1 := hid hb1
  clear hb1 H1
  by_cases hz : E = 0
  rotate_left
  · have t1 : (E == 0) = false := by simpa using hz
    have HZ := hid (show PT = [] ∧ N1 = 0 ∧ E1 = E from ⟨by rw [HP.out, if_neg hz], by rw [HN.out, if_neg (fun h => hz h.1)], by rw [HE.out, if_pos hz]⟩)
    obtain ⟨rfl, rfl, rfl⟩ := HZ.out
    clear hz HZ H2 H3 HP HN HE HW HQ0 HQL
    go_wp2_with fail
    -- STOP-b
    refine (H4.out w1 HB1.out).mono ?_
    rintro e w2 ⟨rfl, hb2⟩
    have HB2 := hid (Below.step' HB1.out hb2)
    clear hb2 H4
    go_wp2_with fail
    refine (H5.out w2 HB2.out).mono ?_
    rintro e w3 ⟨rfl, hb3⟩
    have HB3 := hid (Below.step' HB2.out hb3)
    clear hb3 H5
    go_wp2_with fail
    -- STOP-c
    refine (H6.out w3 HB3.out).mono ?_
    rintro e w4 ⟨rfl, hb4⟩
    have HB4 := hid (Below.step' HB3.out hb4)
    clear hb4 H6
    go_wp2_with fail
    -- STOP-d
    go_ret
    exact ⟨by simp, HB4.out⟩
  have t1 : (E == 0) = true := by simp [hz]
  have HPQ := hid (show PT = QT by rw [HP.out, if_pos hz])
  obtain ⟨h8, h0, hne⟩ := HQ0.out hz
  have HNE := hid hne
  have hVL := HQL.out hz
  have HVW := hid (show V = (widsL (sts L) []).getD [] by rw [HW.out, if_pos hz])
  have HQT' := hid (fun w2 hb => H2.out w2 hb hz)
  have HN' := hid (show N1 = if 0 ≤ i ∧ i < (L.length : Int) then V.getD i.toNat 0 else 0 by
    rw [HN.out]
    by_cases q : 0 ≤ i ∧ i < (L.length : Int)
    · rw [if_pos ⟨hz, q⟩, if_pos q]
    · rw [if_neg (fun h => q h.2), if_neg q])
  have HE' := hid (show E1 = if 0 ≤ i ∧ i < (L.length : Int) then 0 else 4 by rw [HE.out, if_neg (by simp [hz])])
  have hw : IntKind.i64.wrap ((L.length : Int) - 1) = (L.length : Int) - 1 := IntWalk.i64_in _ (by omega)
  subst hz
  have HPQ' := HPQ.out
  subst HPQ'
  have HVLL := hid hVL
  clear H2 HP HN HE HW HQ0 HQL hne hVL HPQ
  go_wp2_with fail
  -- STOP-e
  refine (HQT'.out w1 HB1.out).mono ?_
  rintro e w2 ⟨rfl, hb2⟩
  have HB2 := hid (Below.step' HB1.out hb2)
  clear hb2 HQT'
  go_wp2_with fail
  -- STOP-f
  refine (H3.out w2 HB2.out h8).mono ?_
  rintro e w3 ⟨hb3, (⟨hn, -⟩ | ⟨V', v, hV', rfl, ho⟩)⟩
  · exact absurd hn HNE.out
  have hVV : V' = V := by rw [HVW.out, hV']; rfl
  subst hVV
  obtain ⟨A3, k3, rfl⟩ := own_formS ho
  have HO := hid ho
  have HB3 := hid (Below.step' HB2.out hb3)
  clear hb3 ho hV' H3
  have HI : Hid (∀ w1, Calls Tryd.prog 9 #[.int .i64 i, .int .i64 0, .int .i64 ((L.length : Int) - 1)] w1 fun e w' => e = .returned (.bool (inB i 0 ((L.length : Int) - 1))) ∧ w1 = w') := hid (fun w1 => in_any i 0 _ w1)
  have HIB := hid (show inB i 0 ((L.length : Int) - 1) = true ↔ 0 ≤ i ∧ i < (L.length : Int) by unfold inB; simp; omega)
  obtain ⟨B, hB⟩ : ∃ q, q = inB i 0 ((L.length : Int) - 1) := ⟨_, rfl⟩
  rw [← hB] at HI HIB
  clear hB
  cases B
  · have hq : ¬ (0 ≤ i ∧ i < (L.length : Int)) := fun q => by have h := HIB.out.2 q; first | (exact absurd h (by decide)) | cases h
    have hN0 : N1 = 0 := by rw [HN'.out, if_neg hq]
    have hE4 : E1 = 4 := by rw [HE'.out, if_neg hq]
    subst hN0 hE4
    clear hq HN' HE' HIB
    go_wp2_with (go_at_call 9; refine (HI.out _).mono ?_; rintro e w' ⟨rfl, rfl⟩)
    -- STOP-g
    refine (H4.out w3 HB3.out).mono ?_
    rintro e w4 ⟨rfl, hb4⟩
    have HB4 := hid (Below.step' HB3.out hb4)
    clear hb4 H4
    go_wp2_with fail
    refine (H5.out w4 HB4.out).mono ?_
    rintro e w5 ⟨rfl, hb5⟩
    have HB5 := hid (Below.step' HB4.out hb5)
    clear hb5 H5
    go_wp2_with fail
    refine (H6.out w5 HB5.out).mono ?_
    rintro e w6 ⟨rfl, hb6⟩
    have HB6 := hid (Below.step' HB5.out hb6)
    clear hb6 H6
    go_wp2_with fail
    -- STOP-h
    go_ret
    exact ⟨by simp, HB6.out⟩
  · have hq : 0 ≤ i ∧ i < (L.length : Int) := HIB.out.1 (by first | trivial | rfl)
    obtain ⟨j, rfl⟩ : ∃ j : Nat, i = (j : Int) := ⟨i.toNat, by omega⟩
    have hj : j < V'.length := by rw [HVLL.out]; omega
    have hN0 : N1 = V'[j] := by rw [HN'.out, if_pos hq, show ((j : Int)).toNat = j by omega, List.getD_eq_getElem?_getD, List.getElem?_eq_getElem hj]; rfl
    have hE4 : E1 = 0 := by rw [HE'.out, if_pos hq]
    subst hE4
    obtain ⟨b, off, rfl, hb, c0⟩ := (Row.of_ownS HO.out).int' hj
    rw [← hN0] at c0
    have hj0 : (0 : Int) ≤ (j : Int) := by omega
    have hj2 : (j : Int) < (V'.length : Int) := by omega
    clear hq HN' HE' HIB hN0
    go_wp2_with (go_at_call 9; refine (HI.out _).mono ?_; rintro e w' ⟨rfl, rfl⟩)
    -- STOP-i
    refine (H4.out w3 HB3.out).mono ?_
    rintro e w4 ⟨rfl, hb4⟩
    have HB4 := hid (Below.step' HB3.out hb4)
    clear hb4 H4 c0
    go_wp2_with fail
    refine (H5.out w4 HB4.out).mono ?_
    rintro e w5 ⟨rfl, hb5⟩
    have HB5 := hid (Below.step' HB4.out hb5)
    clear hb5 H5
    go_wp2_with fail
    refine (H6.out w5 HB5.out).mono ?_
    rintro e w6 ⟨rfl, hb6⟩
    have HB6 := hid (Below.step' HB5.out hb6)
    clear hb6 H6
    go_wp2_with fail
    -- STOP-j
    go_ret
    exact ⟨by simp, HB6.out⟩
end Go.Proofs.YtamlaeocojcgdaaDoor
/- viewlaw.QuerySays. -/
namespace Go.Proofs.YtamlaeocojcgdaaDoor
open Go.ChangeShapes Go.WideShapes Go.ChangeAt Go.RowKit

theorem querySays_any (L : List SR) (A : Option Addr) (c : Nat) (i : Int) (w : World) (hr : RowS w w.heap.size A L) (hl : L.length ≤ 9223372036854775807) (ht : Pow w) (hv : VerbsAt w) :
    Calls Tryd.prog 3 #[.slice A L.length c, .int .i64 i] w fun e w' => e = .returned (.bool true) ∧ Below w.heap.size w w' :=
  querySays_over L A c i w hr hl ht fun w1 hb hq => by
    obtain ⟨h1, h2, h3⟩ := stTx_query hq
    exact qtext_any L A c w1 (hr.step hb) (by rw [List.length_map] at h1; exact h1) h3 (Pow.step ht hb) (hv.step hb)
end Go.Proofs.YtamlaeocojcgdaaDoor
