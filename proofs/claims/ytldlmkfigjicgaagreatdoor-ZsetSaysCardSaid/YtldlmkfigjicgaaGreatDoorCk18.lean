/- Zsy -/
import Derived.Test.YtldlmkfigjicgaaGreatDoorCk16
import Derived.Test.YtldlmkfigjicgaaGreatDoorCk11
import Derived.Test.YtldlmkfigjicgaaGreatDoorCk08
import Derived.Maps.RangeWalk
/- viewlaw.ZsetSays. -/
namespace Go.Proofs.YtldlmkfigjicgaaGreatDoor
set_option linter.unusedVariables false
set_option linter.unusedSimpArgs false
open Go.ChangeShapes Go.WideShapes Go.ChangeAt Go.RowKit

theorem its_rowI {w : World} {lo : Nat} {A : Option Addr} {k : Nat} {M : List IR} (h1 : w.ownsRow lo 67 2 (.slice A M.length k) M.length (rcells M)) (h2 : RowsNew w lo (.slice A M.length k) M) : RowI w w.heap.size A M := ⟨Row.of_ownS h1, h2.rows⟩
theorem ofX_bad {t : Tab} (h : tabI t ≠ 0) : ofX t = [] := if_neg h
theorem negX_bad {l : List It} (h : setI l ≠ 0) : negX l = [] := if_neg h
set_option maxHeartbeats 8000000 in
set_option maxRecDepth 100000 in
theorem zsetSays_any (ML MA MB : List IR) (AL AA AB : Option Addr) (kl ka kb : Nat) (t : Tab) (TA : Option Addr) (k : Nat) (TB : Option Addr) (m : Nat) (x y : List Int) (XA YA : Option Addr) (xk yk : Nat) (w : World)
    (rl : RowI w w.heap.size AL ML) (ll : ML.length ≤ 9223372036854775807) (ra : RowI w w.heap.size AA MA) (la : MA.length ≤ 9223372036854775807) (rb : RowI w w.heap.size AB MB) (lb : MB.length ≤ 9223372036854775807)
    (rc : Row w w.heap.size TA (dcells t.c.cloud)) (lc : t.c.cloud.length ≤ 9223372036854775807) (rt : Row w w.heap.size TB (tcells t.cells)) (lt : t.cells.length ≤ 9223372036854775807)
    (rx : Row w w.heap.size XA (icells' x)) (lx : x.length ≤ 9223372036854775807) (ry : Row w w.heap.size YA (icells' y)) (ly : y.length ≤ 9223372036854775807) (hp : Pow w) :
    Calls Tryz.prog 3 #[.slice AL ML.length kl, .slice AA MA.length ka, .slice AB MB.length kb, tval t TA k TB m, .slice XA x.length xk, .slice YA y.length yk] w fun e w' => e = .returned (.bool true) ∧ Below w.heap.size w w' := by
  have H1 := hid (fun w1 (hb : Below w.heap.size w w1) => norm_any ML AL kl w1 (rl.step hb) ll)
  have H2 := hid (fun w1 (hb : Below w.heap.size w w1) => Rnorm_any ML AL kl w1 (rl.step hb) ll (Pow.step hp hb))
  have H3 := hid (fun w1 (hb : Below w.heap.size w w1) => add_any MA MB AA AB ka kb w1 (ra.step hb) la (rb.step hb) lb)
  have H4 := hid (fun w1 (hb : Below w.heap.size w w1) => Radd_any MA MB AA AB ka kb w1 (ra.step hb) la (rb.step hb) lb (Pow.step hp hb))
  have H5 := hid (fun w1 (hb : Below w.heap.size w w1) => neg_any MA AA ka w1 (ra.step hb) la)
  have H6 := hid (fun w1 (hb : Below w.heap.size w w1) => Rset_any MA AA ka w1 (ra.step hb) la)
  have H7 := hid (fun (h0 : setI (its MA) = 0) w1 (hb : Below w.heap.size w w1) => Rminus_any MA AA ka w1 (ra.step hb) h0)
  have H8 := hid (fun w1 (hb : Below w.heap.size w w1) => of_any t TA k TB m w1 (rc.step hb) lc (rt.step hb) lt)
  have H9 := hid (fun w1 (hb : Below w.heap.size w w1) => rtable_any t TA k TB m w1 (rc.step hb) lc (rt.step hb) lt)
  have H10 := hid (fun (h0 : tabI t = 0) w1 (hb : Below w.heap.size w w1) => Rrows_any t TA k TB m w1 (rt.step hb) h0)
  have H11 := hid (fun w1 (hb : Below w.heap.size w w1) => orderL_any x y XA YA xk yk w1 (rx.step hb) (ry.step hb) lx ly)
  have H12 := hid (fun w1 (hb : Below w.heap.size w w1) => Rorder_any x y XA YA xk yk w1 (rx.step hb) (ry.step hb) lx ly)
  have H13 := hid (fun w1 (hb : Below w.heap.size w w1) => zcheck_any MA AA ka w1 (ra.step hb) la)
  have HN0 := hid (@negX_bad (its MA))
  have HN1 := hid (fun h : setI (its MA) = 0 => show negX (its MA) = negL (its MA) from if_pos h)
  have HO0 := hid (@ofX_bad t)
  clear rl ra rb rc rt rx ry hp
  obtain ⟨SE, hSE⟩ : ∃ q, q = setI (its MA) := ⟨_, rfl⟩
  obtain ⟨TE, hTE⟩ : ∃ q, q = tabI t := ⟨_, rfl⟩
  rw [← hSE] at H5 H6 H7 H13 HN0 HN1
  rw [← hTE] at H8 H9 H10 HO0
  obtain ⟨NX, hNX⟩ : ∃ q, q = negX (its MA) := ⟨_, rfl⟩
  obtain ⟨OX, hOX⟩ : ∃ q, q = ofX t := ⟨_, rfl⟩
  rw [← hNX] at H5 HN0 HN1
  rw [← hOX] at H8 H10 HO0
  clear hSE hTE hNX hOX
  obtain ⟨⟨c0, c1, c2, c3, cl⟩, tl⟩ := t
  simp only [tval] at H8 H9 H10 ⊢
  simp only at lc lt
  obtain ⟨W, hW⟩ : ∃ W : World, W = w.alloc (.cells #[.int .i64 c0, .int .i64 c1, .int .i64 c2, .int .i64 c3, .slice TA cl.length k, .slice TB tl.length m] 29) := ⟨_, rfl⟩
  have HBW := hid (show Below w.heap.size w W by rw [hW]; (repeat' (first | (with_reducible exact Below.refl _ _) | (with_reducible assumption) | (with_reducible refine below_drewN ?_ _) | (with_reducible refine Below.drew ?_) | (with_reducible refine Below.alloc ?_ ?_ _) | (with_reducible refine Below.setCell ?_ ?_ _) | (refine Below.trans ?_ (Below.mono (by assumption) ?_)) | go_size)))
  have HXT := hid (show Blk W w.heap.size #[.int .i64 c0, .int .i64 c1, .int .i64 c2, .int .i64 c3, .slice TA cl.length k, .slice TB tl.length m] 29 by rw [hW]; exact Blk.new _ _ _)
  go_enter Tryz.func3, Tryz.ntmps3
  go_upto_region 1 with fail
  rw [← hW]
  clear hW
  go_wp2_with fail
  -- STOP-a
  refine (H1.out _ HBW.out).mono ?_
  rintro e w1 ⟨A1, k1, M1, rfl, hi1, ho1, hn1, hb1⟩
  have HR1 := hid (its_rowI ho1 hn1)
  have hl1 := own_len1 ho1
  have HI1 := hid hi1
  have HB1 := hid (Below.step' HBW.out hb1)
  replace HXT := hid (HXT.out.step hb1)
  clear hi1 ho1 hn1 hb1 H1 HBW
  go_wp2_with fail
  refine (H2.out _ HB1.out).mono ?_
  rintro e w2 ⟨A2, k2, M2, rfl, hi2, ho2, hn2, hb2⟩
  have HR2 := hid (its_rowI ho2 hn2)
  have hl2 := own_len1 ho2
  have HI12 := hid (show decide (its M1 = its M2) = true by rw [HI1.out, hi2]; exact decide_eq_true rfl)
  have HB2 := hid (Below.step' HB1.out hb2)
  replace HXT := hid (HXT.out.step hb2)
  replace HR1 := hid (HR1.out.step hb2)
  clear hi2 ho2 hn2 hb2 H2 HB1 HI1
  go_wp2_with fail
  -- STOP-b
  refine (H3.out _ HB2.out).mono ?_
  rintro e w3 ⟨A3, k3, M3, rfl, hi3, ho3, hn3, hb3⟩
  have HR3 := hid (its_rowI ho3 hn3)
  have hl3 := own_len1 ho3
  have HI3 := hid hi3
  have HB3 := hid (Below.step' HB2.out hb3)
  replace HXT := hid (HXT.out.step hb3)
  replace HR1 := hid (HR1.out.step hb3)
  replace HR2 := hid (HR2.out.step hb3)
  clear hi3 ho3 hn3 hb3 H3 HB2
  go_wp2_with fail
  refine (H4.out _ HB3.out).mono ?_
  rintro e w4 ⟨A4, k4, M4, rfl, hi4, ho4, hn4, hb4⟩
  have HR4 := hid (its_rowI ho4 hn4)
  have hl4 := own_len1 ho4
  have HI34 := hid (show decide (its M3 = its M4) = true by rw [HI3.out, hi4]; exact decide_eq_true rfl)
  have HB4 := hid (Below.step' HB3.out hb4)
  replace HXT := hid (HXT.out.step hb4)
  replace HR1 := hid (HR1.out.step hb4)
  replace HR2 := hid (HR2.out.step hb4)
  replace HR3 := hid (HR3.out.step hb4)
  clear hi4 ho4 hn4 hb4 H4 HB3 HI3
  obtain ⟨EN, hEN⟩ : ∃ q, q = normE (its ML) := ⟨_, rfl⟩
  obtain ⟨EA, hEA⟩ : ∃ q, q = addE (its MA) (its MB) := ⟨_, rfl⟩
  rw [← hEN, ← hEA]
  clear hEN hEA
  go_wp2_with fail
  -- STOP-c
  refine (H5.out _ HB4.out).mono ?_
  rintro e w5 ⟨A5, k5, M5, rfl, hi5, ho5, hn5, hb5⟩
  have HR5 := hid (its_rowI ho5 hn5)
  have hl5 := own_len1 ho5
  have HI5 := hid hi5
  have HB5 := hid (Below.step' HB4.out hb5)
  replace HXT := hid (HXT.out.step hb5)
  replace HR1 := hid (HR1.out.step hb5)
  replace HR2 := hid (HR2.out.step hb5)
  replace HR3 := hid (HR3.out.step hb5)
  replace HR4 := hid (HR4.out.step hb5)
  clear hi5 ho5 hn5 hb5 H5 HB4
  go_wp2_with fail
  refine (H6.out _ HB5.out).mono ?_
  rintro e w6 ⟨rfl, hb6⟩
  have HB6 := hid (Below.step' HB5.out hb6)
  replace HXT := hid (HXT.out.step hb6)
  replace HR1 := hid (HR1.out.step hb6)
  replace HR2 := hid (HR2.out.step hb6)
  replace HR3 := hid (HR3.out.step hb6)
  replace HR4 := hid (HR4.out.step hb6)
  replace HR5 := hid (HR5.out.step hb6)
  clear hb6 HB5
  go_upto_if 56 with fail
  -- STOP-d
  go_cut [23] from 56 to 58 (fun s wx => ∃ (A6 : Option Addr) (k6 : Nat) (M6 : List IR), s = .slice A6 M6.length k6 ∧ M6.length ≤ 400 ∧ Hid (RowI wx wx.heap.size A6 M6) ∧ Hid (its M6 = NX) ∧ Hid (Below w6.heap.size w6 wx))
  case first =>
    by_cases hz : SE = 0
    · have t1 : (SE == 0) = true := by simp [hz]
      have HM := hid (H7.out hz w6 HB6.out)
      have HNL := hid (HN1.out hz)
      clear hz
      go_wp2_with fail
      -- STOP-p
      refine HM.out.mono ?_
      rintro e w7 ⟨A7, k7, M7, rfl, hi7, hr7, hl7, hb7⟩
      have H77 := hid (⟨hi7, hr7, hl7, hb7⟩ : _ ∧ _ ∧ _ ∧ _)
      clear hi7 hr7 hl7 hb7 HM
      go_wp2_with fail
      -- STOP-q
      go_meet
      case rel => exact ⟨A7, k7, M7, by first | rfl | simp, H77.out.2.2.1, hid H77.out.2.1, hid (by rw [H77.out.1, HNL.out]), hid H77.out.2.2.2⟩
    · have t1 : (SE == 0) = false := by simp [hz]
      have HNL := hid (HN0.out hz)
      clear hz
      go_wp2_with fail
      go_meet
      case rel => exact ⟨none, 0, [], rfl, by simp, hid RowI.nil, hid (by rw [HNL.out]; rfl), hid (Below.refl _ _)⟩
  case rest =>
    obtain ⟨A6, k6, M6, rfl, hl6, HR6, HI6, HBC⟩ := hcut
    obtain ⟨w7, rfl⟩ : ∃ wx : World, wx = wc := ⟨_, rfl⟩
    have hbc := HBC.out
    have HB7 := hid (Below.step' HB6.out hbc)
    have HI56 := hid (show decide (its M5 = its M6) = true by rw [HI5.out, HI6.out]; exact decide_eq_true rfl)
    replace HXT := hid (HXT.out.step hbc)
    replace HR1 := hid (HR1.out.step hbc)
    replace HR2 := hid (HR2.out.step hbc)
    replace HR3 := hid (HR3.out.step hbc)
    replace HR4 := hid (HR4.out.step hbc)
    replace HR5 := hid (HR5.out.step hbc)
    clear hbc HBC HB6 HI5 HI6 H7 HN0 HN1
    obtain ⟨cHXT, fHXT, sHXT, nHXT⟩ := HXT.out.all
    try simp only [cbox] at cHXT
    go_wp2_with fail
    -- STOP-e
    refine (H8.out _ HB7.out).mono ?_
    rintro e w8 ⟨A8, k8, M8, rfl, hi8, ho8, hn8, hb8⟩
    clear cHXT fHXT sHXT nHXT
    have HR8 := hid (its_rowI ho8 hn8)
    have hl8 := own_len1 ho8
    have HI8 := hid hi8
    have HB8 := hid (Below.step' HB7.out hb8)
    replace HXT := hid (HXT.out.step hb8)
    replace HR1 := hid (HR1.out.step hb8)
    replace HR2 := hid (HR2.out.step hb8)
    replace HR3 := hid (HR3.out.step hb8)
    replace HR4 := hid (HR4.out.step hb8)
    replace HR5 := hid (HR5.out.step hb8)
    replace HR6 := hid (HR6.out.step hb8)
    clear hi8 ho8 hn8 hb8 H8 HB7
    obtain ⟨cHXT, fHXT, sHXT, nHXT⟩ := HXT.out.all
    try simp only [cbox] at cHXT
    go_wp2_with fail
    -- STOP-f
    refine (H9.out _ HB8.out).mono ?_
    rintro e w9 ⟨rfl, hb9⟩
    clear cHXT fHXT sHXT nHXT
    have HB9 := hid (Below.step' HB8.out hb9)
    replace HXT := hid (HXT.out.step hb9)
    replace HR1 := hid (HR1.out.step hb9)
    replace HR2 := hid (HR2.out.step hb9)
    replace HR3 := hid (HR3.out.step hb9)
    replace HR4 := hid (HR4.out.step hb9)
    replace HR5 := hid (HR5.out.step hb9)
    replace HR6 := hid (HR6.out.step hb9)
    replace HR8 := hid (HR8.out.step hb9)
    clear hb9 HB8
    go_upto_if 66 with fail
    -- STOP-g
    go_cut [26] from 66 to 68 (fun s wx => ∃ (A9 : Option Addr) (k9 : Nat) (M9 : List IR), s = .slice A9 M9.length k9 ∧ M9.length ≤ 9223372036854775807 ∧ Hid (RowI wx wx.heap.size A9 M9) ∧ Hid (its M9 = OX) ∧ Hid (Below w9.heap.size w9 wx))
    case first =>
      by_cases hz : TE = 0
      · have t1 : (TE == 0) = true := by simp [hz]
        have HM := hid (H10.out hz w9 HB9.out)
        clear hz
        have HXT9 := hid HXT.out
        obtain ⟨cHXT9, fHXT9, sHXT9, nHXT9⟩ := HXT9.out.all
        try simp only [cbox] at cHXT9
        go_wp2_with fail
        refine HM.out.mono ?_
        rintro e w10 ⟨A7, k7, M7, rfl, hi7, ho7, hn7, hb7⟩
        clear cHXT9 fHXT9 sHXT9 nHXT9
        have H77 := hid (⟨hi7, its_rowI ho7 hn7, own_len1 ho7, hb7⟩ : _ ∧ _ ∧ _ ∧ _)
        clear hi7 ho7 hn7 hb7 HM
        go_wp2_with fail
        go_meet
        case rel => exact ⟨A7, k7, M7, by first | rfl | simp, H77.out.2.2.1, hid H77.out.2.1, hid H77.out.1, hid H77.out.2.2.2⟩
      · have t1 : (TE == 0) = false := by simp [hz]
        have HNL := hid (HO0.out hz)
        clear hz
        go_wp2_with fail
        go_meet
        case rel => exact ⟨none, 0, [], rfl, by simp, hid RowI.nil, hid (by rw [HNL.out]; rfl), hid (Below.refl _ _)⟩
    case rest =>
      obtain ⟨A9, k9, M9, rfl, hl9, HR9, HI9, HBC⟩ := hcut
      obtain ⟨w10, rfl⟩ : ∃ wx : World, wx = wc := ⟨_, rfl⟩
      have hbc := HBC.out
      have HB10 := hid (Below.step' HB9.out hbc)
      have HI89 := hid (show decide (its M8 = its M9) = true by rw [HI8.out, HI9.out]; exact decide_eq_true rfl)
      replace HXT := hid (HXT.out.step hbc)
      replace HR1 := hid (HR1.out.step hbc)
      replace HR2 := hid (HR2.out.step hbc)
      replace HR3 := hid (HR3.out.step hbc)
      replace HR4 := hid (HR4.out.step hbc)
      replace HR5 := hid (HR5.out.step hbc)
      replace HR6 := hid (HR6.out.step hbc)
      replace HR8 := hid (HR8.out.step hbc)
      clear hbc HBC HB9 HI8 HI9 H10 HO0
      go_wp2_with fail
      -- STOP-h
      refine (H11.out _ HB10.out).mono ?_
      rintro e w11 ⟨rfl, hw11⟩
      subst hw11
      clear H11
      go_wp2_with fail
      refine (H12.out _ HB10.out).mono ?_
      rintro e w12 ⟨rfl, q12, hw12⟩
      have hb12 : Below w10.heap.size w10 w12 := by rw [hw12]; exact below_drewN (Below.refl _ _) q12
      have HB12 := hid (Below.step' HB10.out hb12)
      replace HXT := hid (HXT.out.step hb12)
      replace HR1 := hid (HR1.out.step hb12)
      replace HR2 := hid (HR2.out.step hb12)
      replace HR3 := hid (HR3.out.step hb12)
      replace HR4 := hid (HR4.out.step hb12)
      replace HR5 := hid (HR5.out.step hb12)
      replace HR6 := hid (HR6.out.step hb12)
      replace HR8 := hid (HR8.out.step hb12)
      replace HR9 := hid (HR9.out.step hb12)
      clear hb12 hw12 H12 HB10
      go_wp2_with fail
      -- STOP-i
      refine (H13.out _ HB12.out).mono ?_
      rintro e w13 ⟨rfl, hb13⟩
      have HB13 := hid (Below.step' HB12.out hb13)
      replace HXT := hid (HXT.out.step hb13)
      replace HR1 := hid (HR1.out.step hb13)
      replace HR2 := hid (HR2.out.step hb13)
      replace HR3 := hid (HR3.out.step hb13)
      replace HR4 := hid (HR4.out.step hb13)
      replace HR5 := hid (HR5.out.step hb13)
      replace HR6 := hid (HR6.out.step hb13)
      replace HR8 := hid (HR8.out.step hb13)
      replace HR9 := hid (HR9.out.step hb13)
      clear hb13 H13 HB12
      go_wp2_with fail
      refine (H6.out _ HB13.out).mono ?_
      rintro e w14 ⟨rfl, hb14⟩
      have HB14 := hid (Below.step' HB13.out hb14)
      replace HXT := hid (HXT.out.step hb14)
      replace HR1 := hid (HR1.out.step hb14)
      replace HR2 := hid (HR2.out.step hb14)
      replace HR3 := hid (HR3.out.step hb14)
      replace HR4 := hid (HR4.out.step hb14)
      replace HR5 := hid (HR5.out.step hb14)
      replace HR6 := hid (HR6.out.step hb14)
      replace HR8 := hid (HR8.out.step hb14)
      replace HR9 := hid (HR9.out.step hb14)
      have hs1 := sameSet_any M1 M2 A1 A2 k1 k2 w14 HR1.out hl1 HR2.out hl2
      rw [HI12.out] at hs1
      have HS1 := hid hs1
      clear hb14 HB13 hs1
      go_wp2_with fail
      -- STOP-j
      refine HS1.out.mono ?_
      rintro e w15 ⟨rfl, hb15⟩
      have HB15 := hid (Below.step' HB14.out hb15)
      replace HXT := hid (HXT.out.step hb15)
      replace HR3 := hid (HR3.out.step hb15)
      replace HR4 := hid (HR4.out.step hb15)
      replace HR5 := hid (HR5.out.step hb15)
      replace HR6 := hid (HR6.out.step hb15)
      replace HR8 := hid (HR8.out.step hb15)
      replace HR9 := hid (HR9.out.step hb15)
      have hs3 := sameSet_any M3 M4 A3 A4 k3 k4 w15 HR3.out hl3 HR4.out hl4
      rw [HI34.out] at hs3
      have HS3 := hid hs3
      clear hb15 HB14 hs3 HS1 HR1 HR2
      go_wp2_with fail
      refine HS3.out.mono ?_
      rintro e w16 ⟨rfl, hb16⟩
      have HB16 := hid (Below.step' HB15.out hb16)
      replace HXT := hid (HXT.out.step hb16)
      replace HR5 := hid (HR5.out.step hb16)
      replace HR6 := hid (HR6.out.step hb16)
      replace HR8 := hid (HR8.out.step hb16)
      replace HR9 := hid (HR9.out.step hb16)
      have hs5 := sameSet_any M5 M6 A5 A6 k5 k6 w16 HR5.out hl5 HR6.out (by omega)
      rw [HI56.out] at hs5
      have HS5 := hid hs5
      clear hb16 HB15 hs5 HS3 HR3 HR4
      go_wp2_with fail
      -- STOP-k
      refine HS5.out.mono ?_
      rintro e w17 ⟨rfl, hb17⟩
      have HB17 := hid (Below.step' HB16.out hb17)
      replace HXT := hid (HXT.out.step hb17)
      replace HR8 := hid (HR8.out.step hb17)
      replace HR9 := hid (HR9.out.step hb17)
      clear hb17 HB16 HS5 HR5 HR6
      go_wp2_with fail
      refine (H6.out _ HB17.out).mono ?_
      rintro e w18 ⟨rfl, hb18⟩
      have HB18 := hid (Below.step' HB17.out hb18)
      replace HXT := hid (HXT.out.step hb18)
      replace HR8 := hid (HR8.out.step hb18)
      replace HR9 := hid (HR9.out.step hb18)
      have hs8 := sameSet_any M8 M9 A8 A9 k8 k9 w18 HR8.out hl8 HR9.out hl9
      rw [HI89.out] at hs8
      have HS8 := hid hs8
      clear hb18 HB17 hs8
      go_wp2_with fail
      -- STOP-l
      refine HS8.out.mono ?_
      rintro e w19 ⟨rfl, hb19⟩
      have HB19 := hid (Below.step' HB18.out hb19)
      replace HXT := hid (HXT.out.step hb19)
      clear hb19 HB18 HS8 HR8 HR9
      obtain ⟨cHXT, fHXT, sHXT, nHXT⟩ := HXT.out.all
      try simp only [cbox] at cHXT
      go_wp2_with fail
      -- STOP-m
      refine (H9.out _ HB19.out).mono ?_
      rintro e w20 ⟨rfl, hb20⟩
      have HB20 := hid (Below.step' HB19.out hb20)
      clear hb20 HB19 H9
      go_wp2_with fail
      -- STOP-n
      go_ret
      exact ⟨rfl, HB20.out⟩
end Go.Proofs.YtldlmkfigjicgaaGreatDoor
