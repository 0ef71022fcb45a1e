/- Sq, QbS -/
import Derived.Test.YtamlaeocojcgdaaDoorQueryBackCardS09
/- viewref.SameQuery. -/
namespace Go.Proofs.YtamlaeocojcgdaaDoor
set_option linter.unusedVariables false
set_option linter.unusedSimpArgs false
open Go.ChangeShapes Go.WideShapes Go.ChangeAt Go.RowKit

instance : DecidableEq St := fun s t => decidable_of_iff (s.kind = t.kind ∧ s.a = t.a ∧ s.b = t.b ∧ s.col = t.col ∧ s.op = t.op ∧ s.val = t.val ∧ s.list = t.list) (by cases s; cases t; simp)
theorem sts_len (L : List SR) : (sts L).length = L.length := List.length_map ..
set_option maxHeartbeats 1000000 in
set_option maxRecDepth 100000 in
theorem sameStep_any (x y : SR) (w : World) (hx : Row w w.heap.size x.A (icells' x.st.list)) (hxl : x.st.list.length ≤ 9223372036854775807) (hy : Row w w.heap.size y.A (icells' y.st.list)) (hyl : y.st.list.length ≤ 9223372036854775807) :
    Calls Tryd.prog 25 #[.agg x.cells.toArray, .agg y.cells.toArray] w fun e w' => e = .returned (.bool (decide (x.st = y.st))) ∧ Below w.heap.size w w' := by
  obtain ⟨⟨x1, x2, x3, x4, x5, x6, xr⟩, xA, xk⟩ := x
  obtain ⟨⟨y1, y2, y3, y4, y5, y6, yr⟩, yA, yk⟩ := y
  simp only at hx hxl hy hyl
  have HC := hid (fun w1 (hb : Below w.heap.size w w1) => equalN_any xr yr xA yA xk yk w1 (hx.step hb) (hy.step hb) hxl hyl)
  clear hx hy
  obtain ⟨R, hR⟩ : ∃ R, R = decide ((⟨x1, x2, x3, x4, x5, x6, xr⟩ : St) = ⟨y1, y2, y3, y4, y5, y6, yr⟩) := ⟨_, rfl⟩
  simp only [← hR]
  have HX : Hid (R = (decide (x1 = y1) && (decide (x2 = y2) && (decide (x3 = y3) && (decide (x4 = y4) && (decide (x5 = y5) && (decide (x6 = y6) && decide (xr = yr)))))))) := hid (by
    rw [hR, Bool.eq_iff_iff]
    simp [St.mk.injEq])
  clear hR
  obtain ⟨rb, hrb⟩ : ∃ b, b = decide (xr = yr) := ⟨_, rfl⟩
  rw [← hrb] at HC HX
  clear hrb
  simp only [SR.cells]
  by_cases h1 : x1 = y1
  rotate_left
  · have t1 : (x1 == y1) = false := by simp [h1]
    have HD : Hid (R = false) := hid (by rw [HX.out]; simp [h1])
    clear h1
    go_enter Tryd.func25, Tryd.ntmps25
    go_wp2
    go_ret
    exact ⟨ret_bool HD.out.symm, by (repeat' (first | (with_reducible exact Below.refl _ _) | (with_reducible assumption) | (with_reducible refine below_drewN ?_ _) | (with_reducible refine Below.drew ?_) | (with_reducible refine Below.alloc ?_ ?_ _) | (with_reducible refine Below.setCell ?_ ?_ _) | (refine Below.trans ?_ (Below.mono (by assumption) ?_)) | go_size))⟩
  have t1 : (x1 == y1) = true := by simp [h1]
  rw [decide_eq_true h1, Bool.true_and] at HX
  clear h1
  by_cases h2 : x2 = y2
  rotate_left
  · have t2 : (x2 == y2) = false := by simp [h2]
    have HD : Hid (R = false) := hid (by rw [HX.out]; simp [h2])
    clear h2
    go_enter Tryd.func25, Tryd.ntmps25
    go_wp2
    go_ret
    exact ⟨ret_bool HD.out.symm, by (repeat' (first | (with_reducible exact Below.refl _ _) | (with_reducible assumption) | (with_reducible refine below_drewN ?_ _) | (with_reducible refine Below.drew ?_) | (with_reducible refine Below.alloc ?_ ?_ _) | (with_reducible refine Below.setCell ?_ ?_ _) | (refine Below.trans ?_ (Below.mono (by assumption) ?_)) | go_size))⟩
  have t2 : (x2 == y2) = true := by simp [h2]
  rw [decide_eq_true h2, Bool.true_and] at HX
  clear h2
  by_cases h3 : x3 = y3
  rotate_left
  · have t3 : (x3 == y3) = false := by simp [h3]
    have HD : Hid (R = false) := hid (by rw [HX.out]; simp [h3])
    clear h3
    go_enter Tryd.func25, Tryd.ntmps25
    go_wp2
    go_ret
    exact ⟨ret_bool HD.out.symm, by (repeat' (first | (with_reducible exact Below.refl _ _) | (with_reducible assumption) | (with_reducible refine below_drewN ?_ _) | (with_reducible refine Below.drew ?_) | (with_reducible refine Below.alloc ?_ ?_ _) | (with_reducible refine Below.setCell ?_ ?_ _) | (refine Below.trans ?_ (Below.mono (by assumption) ?_)) | go_size))⟩
  have t3 : (x3 == y3) = true := by simp [h3]
  rw [decide_eq_true h3, Bool.true_and] at HX
  clear h3
  by_cases h4 : x4 = y4
  rotate_left
  · have t4 : (x4 == y4) = false := by simp [h4]
    have HD : Hid (R = false) := hid (by rw [HX.out]; simp [h4])
    clear h4
    go_enter Tryd.func25, Tryd.ntmps25
    go_wp2
    go_ret
    exact ⟨ret_bool HD.out.symm, by (repeat' (first | (with_reducible exact Below.refl _ _) | (with_reducible assumption) | (with_reducible refine below_drewN ?_ _) | (with_reducible refine Below.drew ?_) | (with_reducible refine Below.alloc ?_ ?_ _) | (with_reducible refine Below.setCell ?_ ?_ _) | (refine Below.trans ?_ (Below.mono (by assumption) ?_)) | go_size))⟩
  have t4 : (x4 == y4) = true := by simp [h4]
  rw [decide_eq_true h4, Bool.true_and] at HX
  clear h4
  by_cases h5 : x5 = y5
  rotate_left
  · have t5 : (x5 == y5) = false := by simp [h5]
    have HD : Hid (R = false) := hid (by rw [HX.out]; simp [h5])
    clear h5
    go_enter Tryd.func25, Tryd.ntmps25
    go_wp2
    go_ret
    exact ⟨ret_bool HD.out.symm, by (repeat' (first | (with_reducible exact Below.refl _ _) | (with_reducible assumption) | (with_reducible refine below_drewN ?_ _) | (with_reducible refine Below.drew ?_) | (with_reducible refine Below.alloc ?_ ?_ _) | (with_reducible refine Below.setCell ?_ ?_ _) | (refine Below.trans ?_ (Below.mono (by assumption) ?_)) | go_size))⟩
  have t5 : (x5 == y5) = true := by simp [h5]
  rw [decide_eq_true h5, Bool.true_and] at HX
  clear h5
  by_cases h6 : x6 = y6
  rotate_left
  · have t6 : (x6 == y6) = false := by simp [h6]
    have HD : Hid (R = false) := hid (by rw [HX.out]; simp [h6])
    clear h6
    go_enter Tryd.func25, Tryd.ntmps25
    go_wp2
    go_ret
    exact ⟨ret_bool HD.out.symm, by (repeat' (first | (with_reducible exact Below.refl _ _) | (with_reducible assumption) | (with_reducible refine below_drewN ?_ _) | (with_reducible refine Below.drew ?_) | (with_reducible refine Below.alloc ?_ ?_ _) | (with_reducible refine Below.setCell ?_ ?_ _) | (refine Below.trans ?_ (Below.mono (by assumption) ?_)) | go_size))⟩
  have t6 : (x6 == y6) = true := by simp [h6]
  rw [decide_eq_true h6, Bool.true_and] at HX
  clear h6
  go_enter Tryd.func25, Tryd.ntmps25
  go_wp2_with fail
  -- STOP-a
  refine (HC.out _ (by (repeat' (first | (with_reducible exact Below.refl _ _) | (with_reducible assumption) | (with_reducible refine below_drewN ?_ _) | (with_reducible refine Below.drew ?_) | (with_reducible refine Below.alloc ?_ ?_ _) | (with_reducible refine Below.setCell ?_ ?_ _) | (refine Below.trans ?_ (Below.mono (by assumption) ?_)) | go_size)))).mono ?_
  rintro e w1 ⟨rfl, hb1⟩
  have hB1 : Below w.heap.size w w1 := (by refine Below.step' ?_ hb1; (repeat' (first | (with_reducible exact Below.refl _ _) | (with_reducible assumption) | (with_reducible refine below_drewN ?_ _) | (with_reducible refine Below.drew ?_) | (with_reducible refine Below.alloc ?_ ?_ _) | (with_reducible refine Below.setCell ?_ ?_ _) | (refine Below.trans ?_ (Below.mono (by assumption) ?_)) | go_size)))
  clear hb1
  go_wp2
  go_ret
  exact ⟨ret_bool HX.out.symm, hB1⟩
theorem enters_sameStep : ∀ args w, (callFunc 25 args).run Tryd.prog w = .ok (.enter 25 args) w := enters_of Tryd.func25 (by kernel_rfl) rfl

set_option maxHeartbeats 1000000 in
set_option maxRecDepth 100000 in
theorem equalSteps_any (M1 M2 : List SR) (A1 A2 : Option Addr) (c1 c2 : Nat) (w : World) (hr1 : RowS w w.heap.size A1 M1) (hl1 : M1.length ≤ 9223372036854775807) (hr2 : RowS w w.heap.size A2 M2) (hl2 : M2.length ≤ 9223372036854775807) :
    Calls Tryd.prog 24 #[.slice A1 M1.length c1, .slice A2 M2.length c2, .func (.func 25) #[] #[]] w fun e w' => e = .returned (.bool (decide (sts M1 = sts M2))) ∧ Below w.heap.size w w' := by
  have HR1 := hid hr1
  have HR2 := hid hr2
  have eg := enters_sameStep
  clear hr1 hr2
  obtain ⟨R, hR⟩ : ∃ R, R = decide (sts M1 = sts M2) := ⟨_, rfl⟩
  rw [← hR]
  have HRR := hid hR
  clear hR
  by_cases hlen : M1.length = M2.length
  · have hne : ((M1.length : Int) != (M2.length : Int)) = false := by simp [hlen]
    have HL := hid hlen
    clear hlen
    go_enter Tryd.func24, Tryd.ntmps24
    go_wp2_with fail
    go_loopw [17] (fun s17 wr => ∃ k : Nat, k ≤ M1.length ∧ s17 = .int .i64 k ∧ Hid (∀ j (h : j < M1.length) (h' : j < M2.length), j < k → M1[j].st = M2[j].st) ∧ Hid (Below w.heap.size w wr)) (fun s17 _ => M1.length - (intOf s17).toNat)
    case atStart => exact ⟨0, by omega, rfl, hid (fun j _ _ h => by omega), hid (Below.refl _ _)⟩
    case round =>
      obtain ⟨k, hk, rfl, HNO, HB⟩ := hrel
      by_cases hlt : k < M1.length
      · have hlt' : k < M2.length := by have := HL.out; omega
        have HS1 := hid (HR1.out.step HB.out)
        have HS2 := hid (HR2.out.step HB.out)
        obtain ⟨b, off, rfl, hb, h0, h1, h2, h3, h4, h5, h6⟩ := HS1.out.1.sr hlt
        obtain ⟨b', off', rfl, hb', h0', h1', h2', h3', h4', h5', h6'⟩ := HS2.out.1.sr hlt'
        have q1 := HS1.out.2 _ (List.getElem_mem hlt)
        have q2 := HS2.out.2 _ (List.getElem_mem hlt')
        have HXY : Hid (∀ j (h : j < M1.length) (h' : j < M2.length), j = k → (M1[j].st = M2[j].st) = (M1[k].st = M2[k].st)) := hid (fun j h h' e => by subst e; rfl)
        generalize M1[k] = x at *
        generalize M2[k] = y at *
        have HCL := hid (fun w1 (hb : Below wr.heap.size wr w1) => sameStep_any x y w1 (q1.1.step hb) q1.2 (q2.1.step hb) q2.2)
        clear q1 q2
        obtain ⟨bq, hbq⟩ : ∃ q, q = decide (x.st = y.st) := ⟨_, rfl⟩
        rw [← hbq] at HCL
        have HBQ := hid hbq
        clear hbq
        obtain ⟨⟨x1, x2, x3, x4, x5, x6, xr⟩, xA, xk⟩ := x
        obtain ⟨⟨y1, y2, y3, y4, y5, y6, yr⟩, yA, yk⟩ := y
        simp only [SR.cells] at h0 h1 h2 h3 h4 h5 h6 h0' h1' h2' h3' h4' h5' h6' HCL
        have hnb : (b' = wr.heap.size) = False := by simp; omega
        cases bq
        · have HD : Hid (R = false) := hid (by
            rw [HRR.out, decide_eq_false_iff_not]
            intro e
            have e3 : (sts M1)[k]? = (sts M2)[k]? := by rw [e]
            rw [List.getElem?_eq_getElem (by rw [sts_len]; exact hlt), List.getElem?_eq_getElem (by rw [sts_len]; exact hlt')] at e3
            simp only [sts, List.getElem_map, Option.some.injEq] at e3
            rw [HXY.out k hlt hlt' rfl] at e3
            have := HBQ.out
            rw [decide_eq_true e3] at this
            cases this)
          go_wp2_with fail
          refine (HCL.out _ (by (repeat' (first | (with_reducible exact Below.refl _ _) | (with_reducible assumption) | (with_reducible refine below_drewN ?_ _) | (with_reducible refine Below.drew ?_) | (with_reducible refine Below.alloc ?_ ?_ _) | (with_reducible refine Below.setCell ?_ ?_ _) | (refine Below.trans ?_ (Below.mono (by assumption) ?_)) | go_size)))).mono ?_
          rintro e w1 ⟨rfl, hb1⟩
          have hB1 : Below wr.heap.size wr w1 := (by refine Below.step' ?_ hb1; (repeat' (first | (with_reducible exact Below.refl _ _) | (with_reducible assumption) | (with_reducible refine below_drewN ?_ _) | (with_reducible refine Below.drew ?_) | (with_reducible refine Below.alloc ?_ ?_ _) | (with_reducible refine Below.setCell ?_ ?_ _) | (refine Below.trans ?_ (Below.mono (by assumption) ?_)) | go_size)))
          clear hb1
          go_wp2
          go_ret
          exact ⟨ret_bool HD.out.symm, Below.step' HB.out hB1⟩
        · go_wp2_with fail
          refine (HCL.out _ (by (repeat' (first | (with_reducible exact Below.refl _ _) | (with_reducible assumption) | (with_reducible refine below_drewN ?_ _) | (with_reducible refine Below.drew ?_) | (with_reducible refine Below.alloc ?_ ?_ _) | (with_reducible refine Below.setCell ?_ ?_ _) | (refine Below.trans ?_ (Below.mono (by assumption) ?_)) | go_size)))).mono ?_
          rintro e w1 ⟨rfl, hb1⟩
          have hB1 : Below wr.heap.size wr w1 := (by refine Below.step' ?_ hb1; (repeat' (first | (with_reducible exact Below.refl _ _) | (with_reducible assumption) | (with_reducible refine below_drewN ?_ _) | (with_reducible refine Below.drew ?_) | (with_reducible refine Below.alloc ?_ ?_ _) | (with_reducible refine Below.setCell ?_ ?_ _) | (refine Below.trans ?_ (Below.mono (by assumption) ?_)) | go_size)))
          have HB1 := hid hB1
          clear hb1 hB1
          go_wp2
          go_roundw
          case rel =>
            refine ⟨k + 1, by omega, by go_num, hid (fun j h h' hj => ?_), hid (Below.step' HB.out HB1.out)⟩
            by_cases e : j = k
            · rw [HXY.out j h h' e]; exact of_decide_eq_true HBQ.out.symm
            · exact HNO.out j h h' (by omega)
          case measure => simp [intOf]; omega
      · have HD : Hid (R = true) := hid (by
          rw [HRR.out, decide_eq_true_eq]
          refine List.ext_getElem (by rw [sts_len, sts_len]; exact HL.out) fun j h h' => ?_
          simp only [sts, List.getElem_map]
          rw [sts_len] at h h'
          exact HNO.out j h h' (by omega))
        go_wp2
        go_ret
        exact ⟨ret_bool HD.out.symm, HB.out⟩
  · have hne : ((M1.length : Int) != (M2.length : Int)) = true := by simp; omega
    have HD : Hid (R = false) := hid (by
      rw [HRR.out, decide_eq_false_iff_not]
      intro e
      exact hlen (by rw [← sts_len M1, ← sts_len M2, e]))
    go_enter Tryd.func24, Tryd.ntmps24
    go_wp2
    go_ret
    exact ⟨ret_bool HD.out.symm, Below.refl _ _⟩

set_option maxRecDepth 100000 in
theorem sameQuery_any (M1 M2 : List SR) (A1 A2 : Option Addr) (c1 c2 : Nat) (w : World) (hr1 : RowS w w.heap.size A1 M1) (hl1 : M1.length ≤ 9223372036854775807) (hr2 : RowS w w.heap.size A2 M2) (hl2 : M2.length ≤ 9223372036854775807) :
    Calls Tryd.prog 15 #[.slice A1 M1.length c1, .slice A2 M2.length c2] w fun e w' => e = .returned (.bool (decide (sts M1 = sts M2))) ∧ Below w.heap.size w w' := by
  have HC := hid (equalSteps_any M1 M2 A1 A2 c1 c2 w hr1 hl1 hr2 hl2)
  clear hr1 hr2
  obtain ⟨R, hR⟩ : ∃ R, R = decide (sts M1 = sts M2) := ⟨_, rfl⟩
  rw [← hR] at HC ⊢
  clear hR
  go_enter Tryd.func15, Tryd.ntmps15
  go_wp2_with fail
  refine HC.out.mono ?_
  rintro e w1 ⟨rfl, hb1⟩
  go_wp2
  go_ret
  exact ⟨rfl, hb1⟩

end Go.Proofs.YtamlaeocojcgdaaDoor
/- viewkeep.QueryBack. -/
namespace Go.Proofs.YtamlaeocojcgdaaDoor
set_option linter.unusedVariables false
set_option linter.unusedSimpArgs false
open Go.ChangeShapes Go.WideShapes Go.ChangeAt Go.RowKit

/-- The query that is tried first. -/
abbrev qb0 : List SR := [⟨⟨1, 0, 0, 0, 0, 0, []⟩, none, 0⟩, ⟨⟨2, 0, 0, 1, 3, -3, []⟩, none, 0⟩]
theorem itoa_dig {u : Nat} (h : u < 10) : Lib.itoa (u : Int) = [UInt8.ofNat (48 + u)] := by
  unfold Lib.itoa
  rw [if_neg (by omega), show ((u : Int)).toNat = u from rfl, Lib.decDigits, dif_pos h]
theorem itoa_m3 : Lib.itoa (-3) = [45, 51] := by
  unfold Lib.itoa
  rw [if_pos (by decide), show (-3 : Int).natAbs = 3 from rfl, Lib.decDigits, dif_pos (by decide)]
  rfl
theorem qb0_text : printT (sts qb0) = [116, 97, 98, 108, 101, 32, 48, 10, 119, 104, 101, 114, 101, 32, 48, 32, 49, 32, 62, 32, 45, 51, 10] := by
  have h0 : Lib.itoa 0 = [48] := itoa_dig (u := 0) (by decide)
  have h1 : Lib.itoa 1 = [49] := itoa_dig (u := 1) (by decide)
  have he : queryE (sts qb0) = 0 := by decide
  rw [show printT (sts qb0) = if queryE (sts qb0) = 0 then queryT (sts qb0) else [] from rfl, if_pos he]
  simp [queryT, stepT, argsT, numT, verbB, signB, h0, h1, itoa_m3]
set_option maxHeartbeats 4000000 in
set_option maxRecDepth 100000 in
theorem queryBack_any (L : List SR) (A : Option Addr) (c : Nat) (D : List UInt8) (w : World) (hr : RowS w w.heap.size A L) (hl : L.length ≤ 9223372036854775807) (hD : D.length ≤ 9223372036854775807) (hm : MaxAt w) (ht : Pow w) :
    Calls Tryd.prog 5 #[.slice A L.length c, .string (bstr D)] w fun e w' => e = .returned (.bool true) ∧ Below w.heap.size w w' := by
  have HR := hid hr
  have HM := hid hm
  have HT := hid ht
  clear hr hm ht
  obtain ⟨BD, hBD⟩ : ∃ q, q = bstr D := ⟨_, rfl⟩
  rw [← hBD]
  have HBD := hid hBD
  clear hBD
  obtain ⟨w1, hw1⟩ : ∃ q, q = w.alloc (.cells #[.int .i64 1, .int .i64 0, .int .i64 0, .int .i64 0, .int .i64 0, .int .i64 0, .slice none 0 0, .int .i64 2, .int .i64 0, .int .i64 0, .int .i64 1, .int .i64 3, .int .i64 (-3), .slice none 0 0] 40) := ⟨_, rfl⟩
  have HB1 := hid (show Below w.heap.size w w1 by rw [hw1]; exact (Below.refl _ _).alloc (Nat.le_refl _) _)
  have HP0 := hid (qprint_any qb0 (some ⟨w.heap.size, 0, none⟩) 2 w1 ⟨by rw [hw1]; exact Row.new' w _ _ rfl rfl (by simp), fun x hx => by
    simp only [List.mem_cons, List.not_mem_nil, or_false] at hx
    rcases hx with rfl | rfl <;> exact ⟨Row.nil, by decide⟩⟩ (by decide) (Pow.step HT.out HB1.out))
  have e0 : queryE (sts qb0) = 0 := by decide
  have e2 : qb0.length = 2 := rfl
  obtain ⟨BT, hBT⟩ : ∃ q, q = bstr (printT (sts qb0)) := ⟨_, rfl⟩
  rw [e0, e2, ← hBT] at HP0
  have tt := bsq_eqLT hBT qb0_text
  clear e0 e2 hBT
  go_enter Tryd.func5, Tryd.ntmps5
  go_wp2_with fail
  rw [← hw1]
  clear hw1
  refine HP0.out.mono ?_
  rintro e w2 ⟨rfl, hb2⟩
  have HB2 := hid (Below.step' HB1.out hb2)
  have HPQ := hid (qprint_any L A c w2 (HR.out.step HB2.out) hl (Pow.step HT.out HB2.out))
  clear hb2 HP0
  go_wp2_with fail
  -- STOP-a
  refine HPQ.out.mono ?_
  rintro e w3 ⟨rfl, hb3⟩
  have HB3 := hid (Below.step' HB2.out hb3)
  clear hb3 HPQ tt
  have HPD := hid (fun (w4 : World) (hb : Below w.heap.size w w4) => qparse_any D w4 (HM.out.step hb) hD)
  rw [← HBD.out] at HPD
  -- the rest, from a world on
  by_cases hq : queryE (sts L) = 0
  · have hpt : printT (sts L) = queryT (sts L) := by
      rw [show printT (sts L) = if queryE (sts L) = 0 then queryT (sts L) else [] from rfl, if_pos hq]
    rw [hq, hpt]
    have h8 := (stTx_query hq).1
    rw [List.length_map] at h8
    have hlen := queryT_short (stTx_query hq).2.2
    rw [List.length_map] at hlen
    have HPP := hid (qparse_any (queryT (sts L)) w3 (HM.out.step HB3.out) (by omega))
    have HPQ := hid (parse_queryT hq)
    obtain ⟨BQ, hBQ⟩ : ∃ q, q = bstr (queryT (sts L)) := ⟨_, rfl⟩
    rw [← hBQ] at HPP ⊢
    clear hq hpt hBQ hlen
    go_wp2_with fail
    -- STOP-b
    refine HPP.out.mono ?_
    rintro e w4 ⟨A4, c4, M4, rfl, hM4, hM4l, hr4, hb4⟩
    have HB4 := hid (Below.step' HB3.out hb4)
    rw [HPQ.out] at hM4 ⊢
    have HSQ := hid (sameQuery_any M4 L A4 A c4 c w4 hr4 (by omega) (HR.out.step HB4.out) hl)
    rw [hM4, decide_eq_true rfl] at HSQ
    clear hb4 hr4 hM4 HPP
    go_wp2_with fail
    -- STOP-c
    refine HSQ.out.mono ?_
    rintro e w6 ⟨rfl, hb6⟩
    have HBX := hid (Below.step' HB4.out hb6)
    clear hb6 HSQ
    go_wp2_with fail
    -- STOP-d
    -- the second half
    refine (HPD.out _ HBX.out).mono ?_
    rintro e wp ⟨A5, c5, M5, rfl, hM5, hM5l, hr5, hb5⟩
    have HB5 := hid (Below.step' HBX.out hb5)
    have hat := parse_at D
    have HPB := hid (fun h => parse_bad (D := D) h)
    have HPG := hid (fun h => queryT_parse (D := D) h)
    have HM5 := hid hM5
    have HR5 := hid hr5
    obtain ⟨at5, hat5⟩ : ∃ q, q = (parseR D).2.1 := ⟨_, rfl⟩
    obtain ⟨E5, hE5⟩ : ∃ q, q = (parseR D).2.2 := ⟨_, rfl⟩
    rw [← hat5, ← hE5]
    rw [← hat5] at hat
    rw [← hE5] at HPB HPG
    clear hb5 hM5 hr5 hat5 hE5 HPD
    by_cases he : E5 = 0
    · have te : (E5 != 0) = false := by rw [he]; rfl
      obtain ⟨hg1, hg2⟩ := HPG.out he
      have HPR := hid (qprint_any M5 A5 c5 wp HR5.out (by omega) (Pow.step HT.out HB5.out))
      have hpt : printT (sts M5) = D := by
        rw [show printT (sts M5) = if queryE (sts M5) = 0 then queryT (sts M5) else [] from rfl, HM5.out, if_pos hg1, hg2]
      have hq0 : queryE (sts M5) = 0 := by rw [HM5.out, hg1]
      rw [hpt, hq0, ← HBD.out] at HPR
      clear he hg1 hg2 hpt hq0
      go_wp2_with fail
      refine HPR.out.mono ?_
      rintro e wz ⟨rfl, hbz⟩
      have HBZ := hid (Below.step' HB5.out hbz)
      clear hbz HPR
      go_wp2_with fail
      go_ret
      exact ⟨by simp, HBZ.out⟩
    · have te : (E5 != 0) = true := bne_iff_ne.2 he
      have hnil : M5.length = 0 := by
        have h1 := HM5.out
        rw [HPB.out he] at h1
        have := congrArg List.length h1
        rw [List.length_map] at this
        exact this
      have tl : ((M5.length : Int) == 0) = true := by rw [hnil]; rfl
      have ta : (0 ≤ at5) = True := eq_true hat
      have HNL := hid hnil
      clear he hnil
      go_wp2_with fail
      -- STOP-e
      go_ret
      exact ⟨by simp, HB5.out⟩
  · have tq : (queryE (sts L) == 0) = false := beq_eq_false_iff_ne.2 hq
    have HBX := HB3
    obtain ⟨E, hE⟩ : ∃ q, q = queryE (sts L) := ⟨_, rfl⟩
    rw [← hE] at tq ⊢
    clear hq hE
    go_wp2_with fail
    -- STOP-f
    -- the second half
    refine (HPD.out _ HBX.out).mono ?_
    rintro e wp ⟨A5, c5, M5, rfl, hM5, hM5l, hr5, hb5⟩
    have HB5 := hid (Below.step' HBX.out hb5)
    have hat := parse_at D
    have HPB := hid (fun h => parse_bad (D := D) h)
    have HPG := hid (fun h => queryT_parse (D := D) h)
    have HM5 := hid hM5
    have HR5 := hid hr5
    obtain ⟨at5, hat5⟩ : ∃ q, q = (parseR D).2.1 := ⟨_, rfl⟩
    obtain ⟨E5, hE5⟩ : ∃ q, q = (parseR D).2.2 := ⟨_, rfl⟩
    rw [← hat5, ← hE5]
    rw [← hat5] at hat
    rw [← hE5] at HPB HPG
    clear hb5 hM5 hr5 hat5 hE5 HPD
    by_cases he : E5 = 0
    · have te : (E5 != 0) = false := by rw [he]; rfl
      obtain ⟨hg1, hg2⟩ := HPG.out he
      have HPR := hid (qprint_any M5 A5 c5 wp HR5.out (by omega) (Pow.step HT.out HB5.out))
      have hpt : printT (sts M5) = D := by
        rw [show printT (sts M5) = if queryE (sts M5) = 0 then queryT (sts M5) else [] from rfl, HM5.out, if_pos hg1, hg2]
      have hq0 : queryE (sts M5) = 0 := by rw [HM5.out, hg1]
      rw [hpt, hq0, ← HBD.out] at HPR
      clear he hg1 hg2 hpt hq0
      go_wp2_with fail
      refine HPR.out.mono ?_
      rintro e wz ⟨rfl, hbz⟩
      have HBZ := hid (Below.step' HB5.out hbz)
      clear hbz HPR
      go_wp2_with fail
      go_ret
      exact ⟨by simp, HBZ.out⟩
    · have te : (E5 != 0) = true := bne_iff_ne.2 he
      have hnil : M5.length = 0 := by
        have h1 := HM5.out
        rw [HPB.out he] at h1
        have := congrArg List.length h1
        rw [List.length_map] at this
        exact this
      have tl : ((M5.length : Int) == 0) = true := by rw [hnil]; rfl
      have ta : (0 ≤ at5) = True := eq_true hat
      have HNL := hid hnil
      clear he hnil
      go_wp2_with fail
      -- STOP-e
      go_ret
      exact ⟨by simp, HB5.out⟩
end Go.Proofs.YtamlaeocojcgdaaDoor
