/- viewkeep.DotMinus: the walk. -/
import Derived.Test.YtogegnikpjcpdaaMin2
namespace Go.Proofs.Ytogegnikpjcpdaa
set_option linter.unusedVariables false
open Go.ChangeShapes Go.WideShapes Go.ChangeAt Go.RowKit

set_option maxHeartbeats 4000000 in
set_option maxRecDepth 100000 in
theorem min_any (a b : Ctx) (i : Int) (A B : Option Addr) (k m : Nat) (w : World) (ra : Row w w.heap.size A (dcells a.cloud)) (la : a.cloud.length ≤ 9223372036854775807)
    (rb : Row w w.heap.size B (dcells b.cloud)) (lb : b.cloud.length ≤ 9223372036854775807) :
    Calls Try.prog 6 #[cval a A k, cval b B m, .int .i64 i] w fun e w' => e = .returned (.bool true) ∧ Below w.heap.size w w' := by
  have HM := hid (fun w1 (hb : Below w.heap.size w w1) => minus_any a b A B k m w1 (ra.step hb) la (rb.step hb) lb)
  have HJab := hid (fun w1 (hb : Below w.heap.size w w1) => join_any a b A B k m w1 (ra.step hb) la (rb.step hb) lb)
  have HNX := hid (fun w1 (hb : Below w.heap.size w w1) => next_any a i A k w1 (ra.step hb) la)
  have HHa := hid (fun w1 (hb : Below w.heap.size w w1) d => has_any a d A k w1 (ra.step hb) la)
  have HHb := hid (fun w1 (hb : Below w.heap.size w w1) d => has_any b d B m w1 (rb.step hb) lb)
  have RB := hid (fun w1 (hb : Below w.heap.size w w1) => rb.step hb)
  have LB := hid lb
  have NEQ := neq_dot
  clear ra rb
  go_enter Try.func6, Try.ntmps6
  simp only [cval]
  go_wp2_with fail
  refine (next_litC _).mono ?_
  rintro e w1 ⟨rfl, hb1⟩
  have hB1 : Below w.heap.size w w1 := (by refine Below.step' ?_ hb1; (repeat' (first | (with_reducible exact Below.refl _ _) | (with_reducible assumption) | (with_reducible refine below_drewN ?_ _) | (with_reducible refine Below.drew ?_) | (with_reducible refine Below.alloc ?_ ?_ _) | (with_reducible refine Below.setCell ?_ ?_ _) | (refine Below.trans ?_ (Below.mono (by assumption) ?_)) | go_size)))
  have HXA := hid (Blk.step (w := _) (b := w.heap.size) (cs := cbox a A k) (T := 25) (by exact (Blk.new w _ _).alloc _) hb1)
  have HXB := hid (Blk.step (w := _) (b := w.heap.size + 1) (cs := cbox b B m) (T := 25) (by exact Blk.new' (w.alloc _) _ _ (by simp)) hb1)
  have HBW := hid hB1
  clear hb1 hB1
  obtain ⟨cHXA, fHXA, sHXA, nHXA⟩ := HXA.out.all
  try simp only [cbox] at cHXA
  obtain ⟨cHXB, fHXB, sHXB, nHXB⟩ := HXB.out.all
  try simp only [cbox] at cHXB
  simp only [dval]
  go_wp2_with fail
  refine (HM.out _ (HBW.out.alloc HBW.out.size _)).mono ?_
  rintro e w2 ⟨v2, rfl, hown2, hb2⟩
  obtain ⟨A2, k2, rfl⟩ := own_form hown2
  have hB2 : Below w1.heap.size w1 w2 := (by refine Below.step' ?_ hb2; (repeat' (first | (with_reducible exact Below.refl _ _) | (with_reducible assumption) | (with_reducible refine below_drewN ?_ _) | (with_reducible refine Below.drew ?_) | (with_reducible refine Below.alloc ?_ ?_ _) | (with_reducible refine Below.setCell ?_ ?_ _) | (refine Below.trans ?_ (Below.mono (by assumption) ?_)) | go_size)))
  have hr2 := Row.of_own hown2
  clear cHXA fHXA sHXA nHXA
  clear cHXB fHXB sHXB nHXB
  replace HXA := hid (HXA.out.step hB2)
  replace HXB := hid (HXB.out.step hB2)
  replace HBW := hid (Below.step' HBW.out hB2)
  have HR2 := hid hr2
  clear hb2 hB2 hown2 hr2
  obtain ⟨M, hM⟩ : ∃ M, M = minusX a b := ⟨_, rfl⟩
  rw [← hM] at HR2 ⊢
  have HMM := hid hM
  clear hM
  go_upto_if 40 with fail
  go_cut [6] from 40 to 89 (fun s6 wx => s6 = .bool false ∧ Below w2.heap.size w2 wx)
  case first =>
    by_cases q : minusE a b = 0
    rotate_left
    · have t1 : (minusE a b == 0) = false := by simpa using q
      clear q
      go_wp2
      go_meet
      case rel => exact ⟨rfl, Below.refl _ _⟩
    · have HMEM := hid (minus_mem q)
      obtain ⟨e1, e2, e3⟩ := minus_make q
      have hml := (minusE_ok q).2.2
      have t1 : (minusE a b == 0) = true := by simpa using q
      have hM := HMM.out
      rw [← hM] at HMEM e1 e2 e3 hml
      clear q
      have HMK := hid (make_any M A2 k2 w2 HR2.out (by omega))
      rw [e1] at HMK
      have HE3 := hid e3
      clear hM e1 e3
      go_wp2_with fail
      refine HMK.out.mono ?_
      rintro e w3 ⟨A3, k3, rfl, hr3, hb3, hn3⟩
      replace HXA := hid (HXA.out.step hb3)
      replace HXB := hid (HXB.out.step hb3)
      replace HR2 := hid (HR2.out.step hb3)
      replace HBW := hid (Below.step' HBW.out hb3)
      have HB2 := hid hb3
      obtain ⟨D, hD⟩ : ∃ D, D = makeC M := ⟨_, rfl⟩
      rw [← hD] at hr3 e2 HE3 ⊢
      have HR3 := hid hr3
      clear hr3 hb3 hn3 hD
      have hbw3 := HBW.out
      have HJbD := hid (fun w1 (hb : Below w3.heap.size w3 w1) => join_any b D B A3 m k3 w1 (RB.out w1 (Below.step' hbw3 hb)) LB.out (HR3.out.step hb) (by omega))
      clear hbw3
      obtain ⟨cHXA, fHXA, sHXA, nHXA⟩ := HXA.out.all
      try simp only [cbox] at cHXA
      obtain ⟨cHXB, fHXB, sHXB, nHXB⟩ := HXB.out.all
      try simp only [cbox] at cHXB
      go_wp2_with fail
      refine (HJbD.out _ ((Below.refl _ _).alloc (Nat.le_refl _) _)).mono ?_
      rintro e w4 ⟨A4, k4, rfl, hr4, hb4, hn4⟩
      have hB4 : Below w3.heap.size w3 w4 := (by refine Below.step' ?_ hb4; (repeat' (first | (with_reducible exact Below.refl _ _) | (with_reducible assumption) | (with_reducible refine below_drewN ?_ _) | (with_reducible refine Below.drew ?_) | (with_reducible refine Below.alloc ?_ ?_ _) | (with_reducible refine Below.setCell ?_ ?_ _) | (refine Below.trans ?_ (Below.mono (by assumption) ?_)) | go_size)))
      clear cHXA fHXA sHXA nHXA
      clear cHXB fHXB sHXB nHXB
      replace HXA := hid (HXA.out.step hB4)
      replace HXB := hid (HXB.out.step hB4)
      replace HR2 := hid (HR2.out.step hB4)
      replace HBW := hid (Below.step' HBW.out hB4)
      replace HB2 := hid (Below.step' HB2.out hB4)
      have HR4 := hid hr4
      have hl4 := joinX_le b D
      clear hb4 hB4 hr4 hn4 HR3
      obtain ⟨cHXA, fHXA, sHXA, nHXA⟩ := HXA.out.all
      try simp only [cbox] at cHXA
      obtain ⟨cHXB, fHXB, sHXB, nHXB⟩ := HXB.out.all
      try simp only [cbox] at cHXB
      go_wp2_with fail
      refine (HJab.out _ (HBW.out.alloc HBW.out.size _)).mono ?_
      rintro e w5 ⟨A5, k5, rfl, hr5, hb5, hn5⟩
      have hB5 : Below w4.heap.size w4 w5 := (by refine Below.step' ?_ hb5; (repeat' (first | (with_reducible exact Below.refl _ _) | (with_reducible assumption) | (with_reducible refine below_drewN ?_ _) | (with_reducible refine Below.drew ?_) | (with_reducible refine Below.alloc ?_ ?_ _) | (with_reducible refine Below.setCell ?_ ?_ _) | (refine Below.trans ?_ (Below.mono (by assumption) ?_)) | go_size)))
      have HX4 := hid (Blk.step (Blk.new w4 (cbox (joinX b D) A4 k4) 25) hb5)
      clear cHXA fHXA sHXA nHXA
      clear cHXB fHXB sHXB nHXB
      replace HXA := hid (HXA.out.step hB5)
      replace HXB := hid (HXB.out.step hB5)
      replace HR2 := hid (HR2.out.step hB5)
      replace HR4 := hid (HR4.out.step hB5)
      replace HBW := hid (Below.step' HBW.out hB5)
      replace HB2 := hid (Below.step' HB2.out hB5)
      have hl5 := joinX_le a b
      have HS := hid (fun (h1 : joinE b D = 0) (h2 : joinE a b = 0) => show ∀ w1, Below w5.heap.size w5 w1 → Calls Try.prog 27 #[.agg #[.int .i64 (joinX b D).c0, .int .i64 (joinX b D).c1, .int .i64 (joinX b D).c2, .int .i64 (joinX b D).c3, .slice A4 (joinX b D).cloud.length k4], .agg #[.int .i64 (joinX a b).c0, .int .i64 (joinX a b).c1, .int .i64 (joinX a b).c2, .int .i64 (joinX a b).c3, .slice A5 (joinX a b).cloud.length k5]] w1 fun e w' => e = .returned (.bool true) ∧ Below w1.heap.size w1 w' from fun w1 hb => by
        have h := same_ints (joinX b D).c0 (joinX b D).c1 (joinX b D).c2 (joinX b D).c3 (joinX a b).c0 (joinX a b).c1 (joinX a b).c2 (joinX a b).c3 (joinX b D).cloud (joinX a b).cloud A4 A5 k4 k5 w1 (HR4.out.step hb) (hr5.step hb) (by omega) (by omega)
        rwa [show sameB ⟨(joinX b D).c0, (joinX b D).c1, (joinX b D).c2, (joinX b D).c3, (joinX b D).cloud⟩ ⟨(joinX a b).c0, (joinX a b).c1, (joinX a b).c2, (joinX a b).c3, (joinX a b).cloud⟩ = true from (sameB_iff _ _).2 (HE3.out h1 h2)] at h)
      clear hb5 hB5 hr5 hn5 HR4
      go_upto_region 9 with fail
      have hbo : Below w5.heap.size w5 (w5.alloc (.cells (cbox (joinX a b) A5 k5) 25)) := (Below.refl _ _).alloc (Nat.le_refl _) _
      go_cut [73] from 58 to 73 (fun s73 wx => s73 = .bool false ∧ Below w5.heap.size w5 wx)
      case first =>
        have HBO := hid hbo
        clear hbo
        by_cases p1 : joinE b D = 0
        rotate_left
        · have t1 : (joinE b D == 0) = false := by simpa using p1
          clear p1
          go_wp2
          go_meet
          case rel => exact ⟨rfl, HBO.out⟩
        · by_cases p2 : joinE a b = 0
          rotate_left
          · have t1 : (joinE b D == 0) = true := by simpa using p1
            have t2 : (joinE a b == 0) = false := by simpa using p2
            clear p1 p2
            go_wp2
            go_meet
            case rel => exact ⟨rfl, HBO.out⟩
          · have t1 : (joinE b D == 0) = true := by simpa using p1
            have t2 : (joinE a b == 0) = true := by simpa using p2
            have HS2 := hid (HS.out p1 p2)
            clear p1 p2
            obtain ⟨cHX4, fHX4, sHX4, nHX4⟩ := HX4.out.all
            try simp only [cbox] at cHX4
            go_wp2_with fail
            refine (HS2.out _ HBO.out).mono ?_
            rintro e w6 ⟨rfl, hb6⟩
            go_wp2
            go_meet
            case rel => exact ⟨rfl, Below.step' HBO.out hb6⟩
      case rest =>
        obtain ⟨rfl, hb6⟩ := hcut
        obtain ⟨w6, rfl⟩ : ∃ w6 : World, w6 = wc := ⟨_, rfl⟩
        replace HXA := hid (HXA.out.step hb6)
        replace HXB := hid (HXB.out.step hb6)
        replace HR2 := hid (HR2.out.step hb6)
        replace HBW := hid (Below.step' HBW.out hb6)
        replace HB2 := hid (Below.step' HB2.out hb6)
        clear hb6 hbo HS HX4
        go_wp2
        go_loopw [6, 76] (fun s6 s76 wr => ∃ j : Nat, j ≤ M.length ∧ s76 = .int .i64 j ∧ s6 = .bool false ∧ Below w6.heap.size w6 wr) (fun _ s76 _ => M.length - (intOf s76).toNat)
        case atStart => exact ⟨0, by omega, rfl, rfl, Below.refl _ _⟩
        case round =>
          obtain ⟨j, hj, rfl, rfl, hbr⟩ := hrel
          by_cases hlt : j < M.length
          · obtain ⟨bb, off, hA, hbb, h0, h1⟩ := (HR2.out.step hbr).dot hlt
            obtain ⟨m1, m2, -⟩ := HMEM.out M[j] (List.getElem_mem hlt)
            generalize M[j] = d at *
            obtain ⟨d0, d1⟩ := d
            simp only at h0 h1
            subst hA
            have HA1 := hid (fun w1 (hb : Below wr.heap.size wr w1) => HHa.out w1 (Below.step' (Below.step' HBW.out hbr) hb) (d0, d1))
            have HB1 := hid (fun w1 (hb : Below wr.heap.size wr w1) => HHb.out w1 (Below.step' (Below.step' HBW.out hbr) hb) (d0, d1))
            rw [m1] at HA1
            rw [m2] at HB1
            obtain ⟨cA, fA, sA, nA⟩ := (HXA.out.step hbr).all
            simp only [cbox] at cA
            have HXB6 := hid (HXB.out.step hbr)
            have HBR := hid hbr
            have ti : (j : Int) < (M.length : Int) := by omega
            clear m1 m2 hbr fA
            go_wp2_with fail
            refine (HA1.out _ ((Below.refl _ _).alloc (Nat.le_refl _) _)).mono ?_
            rintro e w7 ⟨rfl, hb7⟩
            have hB7 : Below wr.heap.size wr w7 := (by refine Below.step' ?_ hb7; (repeat' (first | (with_reducible exact Below.refl _ _) | (with_reducible assumption) | (with_reducible refine below_drewN ?_ _) | (with_reducible refine Below.drew ?_) | (with_reducible refine Below.alloc ?_ ?_ _) | (with_reducible refine Below.setCell ?_ ?_ _) | (refine Below.trans ?_ (Below.mono (by assumption) ?_)) | go_size)))
            obtain ⟨cB, fB, sB, nB⟩ := (HXB6.out.step hB7).all
            simp only [cbox] at cB
            have hx7 := (Blk.step (Blk.new wr #[.int .i64 d0, .int .i64 d1] 27) hb7).cells.1
            have HB7 := hid hB7
            clear cA sA nA hb7 hB7 h0 h1 fB
            go_wp2_with fail
            refine (HB1.out _ HB7.out).mono ?_
            rintro e w8 ⟨rfl, hb8⟩
            go_wp2
            go_roundw
            case rel => exact ⟨j + 1, by omega, by go_num, rfl, Below.step' HBR.out (Below.step' HB7.out hb8)⟩
            case measure => simp [intOf]; omega
          · have HBR := hid hbr
            clear hbr
            go_wp2
            go_meet
            case rel => exact ⟨rfl, Below.step' HB2.out HBR.out⟩
  case rest =>
    obtain ⟨rfl, hb6⟩ := hcut
    obtain ⟨w6, rfl⟩ : ∃ w6 : World, w6 = wc := ⟨_, rfl⟩
    replace HXA := hid (HXA.out.step hb6)
    replace HBW := hid (Below.step' HBW.out hb6)
    clear hb6 HXB
    obtain ⟨cHXA, fHXA, sHXA, nHXA⟩ := HXA.out.all
    try simp only [cbox] at cHXA
    go_wp2_with fail
    refine (HNX.out _ HBW.out).mono ?_
    rintro e w7 ⟨rfl, hb7⟩
    clear cHXA fHXA sHXA nHXA
    replace HXA := hid (HXA.out.step hb7)
    replace HBW := hid (Below.step' HBW.out hb7)
    clear hb7
    have hbo : Below w.heap.size w (w7.alloc (.cells #[.int .i64 (nextD a i).1, .int .i64 (nextD a i).2] 27)) := HBW.out.alloc HBW.out.size _
    have HBO := hid hbo
    clear hbo
    by_cases q : nextE a i = 0
    rotate_left
    · have t1 : (nextE a i == 0) = false := by simpa using q
      have t2 : (nextE a i != 0) = true := by simpa using q
      clear q
      simp only [dval]
      go_wp2
      go_ret
      exact ⟨rfl, HBO.out⟩
    · obtain ⟨n1, n2⟩ := next_new q
      rw [q]
      generalize nextD a i = N at *
      obtain ⟨N0, N1⟩ := N
      simp only at n1 HBO
      subst n1
      have HN := hid (fun w1 (hb : Below w.heap.size w w1) => HHa.out w1 hb (N0, N1))
      rw [n2] at HN
      clear q n2
      obtain ⟨cHXA, fHXA, sHXA, nHXA⟩ := HXA.out.all
      try simp only [cbox] at cHXA
      simp only [dval]
      go_wp2_with fail
      refine (HN.out _ HBO.out).mono ?_
      rintro e w8 ⟨rfl, hb8⟩
      go_wp2
      go_ret
      exact ⟨rfl, Below.step' HBO.out hb8⟩
end Go.Proofs.Ytogegnikpjcpdaa
