/- QyB, ZsF, ZsG -/
import Derived.Test.YtldlmkfigjicgaaGreatDoorIncPlaysCardS07
import Derived.Handy
import Derived.Deep.RegionHeld3
/- query.width. -/
namespace Go.Proofs.YtldlmkfigjicgaaGreatDoor
set_option linter.unusedVariables false
set_option linter.unusedSimpArgs false
open Go.ChangeShapes Go.WideShapes Go.ChangeAt Go.RowKit

theorem getD_in {W : List Int} {j : Nat} (h : j < W.length) (hr : ∀ v ∈ W, 1 ≤ v ∧ v ≤ 8) : 1 ≤ W.getD j 0 ∧ W.getD j 0 ≤ 8 := by
  rw [List.getD_eq_getElem?_getD, List.getElem?_eq_getElem h]
  exact hr _ (List.getElem_mem h)
theorem stW_range {s : St} {W : List Int} (hr : ∀ v ∈ W, 1 ≤ v ∧ v ≤ 8) (h : stW s W ≠ 0) : 1 ≤ stW s W ∧ stW s W ≤ 8 := by
  have hv := stW_val h
  have ho := stW_ok h
  rw [hv] at h ⊢
  unfold wv at h ⊢
  rcases ho with ⟨k1, -⟩ | ⟨a0, a1, b0, b1, hk⟩
  · rw [if_pos k1]; omega
  · have hA := getD_in (W := W) (j := s.a.toNat) (by omega) hr
    have hB := getD_in (W := W) (j := s.b.toNat) (by omega) hr
    generalize W.getD s.a.toNat 0 = u at *
    generalize W.getD s.b.toNat 0 = v at *
    rcases hk with ⟨k, -⟩ | ⟨k, l, -⟩ | ⟨k, -, -, -, -, e⟩ | ⟨k, -⟩ | k | ⟨k, -⟩ | ⟨k, -⟩
    · rw [if_neg (by omega), if_neg (by omega), if_neg (by omega), if_neg (by omega)]; omega
    · rw [if_neg (by omega), if_pos k] at h ⊢; omega
    · rw [if_neg (by omega), if_neg (by omega), if_pos k]; omega
    · rw [if_neg (by omega), if_neg (by omega), if_neg (by omega), if_neg (by omega)]; omega
    · rw [if_neg (by omega), if_neg (by omega), if_neg (by omega), if_neg (by omega)]; omega
    · rw [if_neg (by omega), if_neg (by omega), if_neg (by omega), if_pos (by omega)]; omega
    · rw [if_neg (by omega), if_neg (by omega), if_neg (by omega), if_pos (by omega)]; omega

set_option maxHeartbeats 1000000 in
set_option maxRecDepth 100000 in
theorem width_k1 (sa sb sc so sv : Int) (sl : List Int) (sA : Option Addr) (sK : Nat) (W : List Int) (WA : Option Addr) (Wc : Nat) (w : World) (hl : Row w w.heap.size sA (icells' sl)) (hll : sl.length ≤ 9223372036854775807) (hW : Row w w.heap.size WA (icells' W)) (hW8 : W.length ≤ 8) (hr : ∀ v ∈ W, 1 ≤ v ∧ v ≤ 8) :
    Calls Tryz.prog 107 #[.agg #[.int .i64 1, .int .i64 sa, .int .i64 sb, .int .i64 sc, .int .i64 so, .int .i64 sv, .slice sA sl.length sK], .slice WA W.length Wc] w fun e w' => e = .returned (.int .i64 (stW ⟨1, sa, sb, sc, so, sv, sl⟩ W)) ∧ Below w.heap.size w w' := by
  obtain ⟨R, hR⟩ : ∃ R, R = stW ⟨1, sa, sb, sc, so, sv, sl⟩ W := ⟨_, rfl⟩
  rw [← hR]
  have HR := hid hR
  clear hR
  have HL := hid hl
  have HRW := hid hW
  clear hl hW
  have hwl : IntKind.i64.wrap ((W.length : Int) - 1) = (W.length : Int) - 1 := IntWalk.i64_in _ (by omega)
  cases htA : wiB sa 0 1
  · go_enter Tryz.func107, Tryz.ntmps107
    go_wp2_with (go_at_call 131; refine (qwithin_any _ _ _ _).mono ?_; rintro e w' ⟨rfl, rfl⟩)
    go_ret
    exact ⟨ret_int (by rw [HR.out]; simp [stW, tblB, badStep, twoB, htA]), by (repeat' (first | (with_reducible exact Below.refl _ _) | (with_reducible assumption) | (with_reducible refine below_drewN ?_ _) | (with_reducible refine Below.drew ?_) | (with_reducible refine Below.alloc ?_ ?_ _) | (with_reducible refine Below.setCell ?_ ?_ _) | (refine Below.trans ?_ (Below.mono (by assumption) ?_)) | go_size))⟩
  · cases htb : (sb == 0)
    · go_enter Tryz.func107, Tryz.ntmps107
      go_wp2_with (go_at_call 131; refine (qwithin_any _ _ _ _).mono ?_; rintro e w' ⟨rfl, rfl⟩)
      go_ret
      exact ⟨ret_int (by rw [HR.out]; simp [stW, tblB, badStep, twoB, htA, htb]), by (repeat' (first | (with_reducible exact Below.refl _ _) | (with_reducible assumption) | (with_reducible refine below_drewN ?_ _) | (with_reducible refine Below.drew ?_) | (with_reducible refine Below.alloc ?_ ?_ _) | (with_reducible refine Below.setCell ?_ ?_ _) | (refine Below.trans ?_ (Below.mono (by assumption) ?_)) | go_size))⟩
    · cases htc : (sc == 0)
      · go_enter Tryz.func107, Tryz.ntmps107
        go_wp2_with (go_at_call 131; refine (qwithin_any _ _ _ _).mono ?_; rintro e w' ⟨rfl, rfl⟩)
        go_ret
        exact ⟨ret_int (by rw [HR.out]; simp [stW, tblB, badStep, twoB, htA, htb, htc]), by (repeat' (first | (with_reducible exact Below.refl _ _) | (with_reducible assumption) | (with_reducible refine below_drewN ?_ _) | (with_reducible refine Below.drew ?_) | (with_reducible refine Below.alloc ?_ ?_ _) | (with_reducible refine Below.setCell ?_ ?_ _) | (refine Below.trans ?_ (Below.mono (by assumption) ?_)) | go_size))⟩
      · cases hto : (so == 0)
        · go_enter Tryz.func107, Tryz.ntmps107
          go_wp2_with (go_at_call 131; refine (qwithin_any _ _ _ _).mono ?_; rintro e w' ⟨rfl, rfl⟩)
          go_ret
          exact ⟨ret_int (by rw [HR.out]; simp [stW, tblB, badStep, twoB, htA, htb, htc, hto]), by (repeat' (first | (with_reducible exact Below.refl _ _) | (with_reducible assumption) | (with_reducible refine below_drewN ?_ _) | (with_reducible refine Below.drew ?_) | (with_reducible refine Below.alloc ?_ ?_ _) | (with_reducible refine Below.setCell ?_ ?_ _) | (refine Below.trans ?_ (Below.mono (by assumption) ?_)) | go_size))⟩
        · cases htv : (sv == 0)
          · go_enter Tryz.func107, Tryz.ntmps107
            go_wp2_with (go_at_call 131; refine (qwithin_any _ _ _ _).mono ?_; rintro e w' ⟨rfl, rfl⟩)
            go_ret
            exact ⟨ret_int (by rw [HR.out]; simp [stW, tblB, badStep, twoB, htA, htb, htc, hto, htv]), by (repeat' (first | (with_reducible exact Below.refl _ _) | (with_reducible assumption) | (with_reducible refine below_drewN ?_ _) | (with_reducible refine Below.drew ?_) | (with_reducible refine Below.alloc ?_ ?_ _) | (with_reducible refine Below.setCell ?_ ?_ _) | (refine Below.trans ?_ (Below.mono (by assumption) ?_)) | go_size))⟩
          · cases htl : (sl.length == 0)
            · have htl' : ((sl.length : Int) == 0) = false := beq_eq_false_iff_ne.2 (by have := beq_eq_false_iff_ne.1 htl; omega)
              go_enter Tryz.func107, Tryz.ntmps107
              go_wp2_with (go_at_call 131; refine (qwithin_any _ _ _ _).mono ?_; rintro e w' ⟨rfl, rfl⟩)
              go_ret
              exact ⟨ret_int (by rw [HR.out]; simp [stW, tblB, badStep, twoB, htA, htb, htc, hto, htv, htl]), by (repeat' (first | (with_reducible exact Below.refl _ _) | (with_reducible assumption) | (with_reducible refine below_drewN ?_ _) | (with_reducible refine Below.drew ?_) | (with_reducible refine Below.alloc ?_ ?_ _) | (with_reducible refine Below.setCell ?_ ?_ _) | (refine Below.trans ?_ (Below.mono (by assumption) ?_)) | go_size))⟩
            · have htl' : ((sl.length : Int) == 0) = true := beq_iff_eq.2 (by have := beq_iff_eq.1 htl; omega)
              go_enter Tryz.func107, Tryz.ntmps107
              go_wp2_with (go_at_call 131; refine (qwithin_any _ _ _ _).mono ?_; rintro e w' ⟨rfl, rfl⟩)
              go_ret
              exact ⟨ret_int (by rw [HR.out]; simp [stW, tblB, badStep, twoB, htA, htb, htc, hto, htv, htl]), by (repeat' (first | (with_reducible exact Below.refl _ _) | (with_reducible assumption) | (with_reducible refine below_drewN ?_ _) | (with_reducible refine Below.drew ?_) | (with_reducible refine Below.alloc ?_ ?_ _) | (with_reducible refine Below.setCell ?_ ?_ _) | (refine Below.trans ?_ (Below.mono (by assumption) ?_)) | go_size))⟩
set_option maxHeartbeats 1000000 in
set_option maxRecDepth 100000 in
theorem width_k3 (sa sb sc so sv : Int) (sl : List Int) (sA : Option Addr) (sK : Nat) (W : List Int) (WA : Option Addr) (Wc : Nat) (w : World) (hl : Row w w.heap.size sA (icells' sl)) (hll : sl.length ≤ 9223372036854775807) (hW : Row w w.heap.size WA (icells' W)) (hW8 : W.length ≤ 8) (hr : ∀ v ∈ W, 1 ≤ v ∧ v ≤ 8) :
    Calls Tryz.prog 107 #[.agg #[.int .i64 3, .int .i64 sa, .int .i64 sb, .int .i64 sc, .int .i64 so, .int .i64 sv, .slice sA sl.length sK], .slice WA W.length Wc] w fun e w' => e = .returned (.int .i64 (stW ⟨3, sa, sb, sc, so, sv, sl⟩ W)) ∧ Below w.heap.size w w' := by
  obtain ⟨R, hR⟩ : ∃ R, R = stW ⟨3, sa, sb, sc, so, sv, sl⟩ W := ⟨_, rfl⟩
  rw [← hR]
  have HR := hid hR
  clear hR
  have HL := hid hl
  have HRW := hid hW
  clear hl hW
  have hwl : IntKind.i64.wrap ((W.length : Int) - 1) = (W.length : Int) - 1 := IntWalk.i64_in _ (by omega)
  cases hA : wiB sa 0 ((W.length : Int) - 1)
  · go_enter Tryz.func107, Tryz.ntmps107
    go_wp2_with (go_at_call 131; refine (qwithin_any _ _ _ _).mono ?_; rintro e w' ⟨rfl, rfl⟩)
    go_ret
    exact ⟨ret_int (by rw [HR.out]; simp [stW, tblB, badStep, twoB, hA]), by (repeat' (first | (with_reducible exact Below.refl _ _) | (with_reducible assumption) | (with_reducible refine below_drewN ?_ _) | (with_reducible refine Below.drew ?_) | (with_reducible refine Below.alloc ?_ ?_ _) | (with_reducible refine Below.setCell ?_ ?_ _) | (refine Below.trans ?_ (Below.mono (by assumption) ?_)) | go_size))⟩
  · cases hn : (sb != 0)
    · have hn' : (sb == 0) = true := by rw [Bool.eq_iff_iff]; simpa using hn
      cases hp : decide (0 < sl.length)
      · have hp' : ((0 : Int) < (sl.length : Int)) = False := eq_false (by have := of_decide_eq_false hp; omega)
        go_enter Tryz.func107, Tryz.ntmps107
        go_wp2_with (go_at_call 131; refine (qwithin_any _ _ _ _).mono ?_; rintro e w' ⟨rfl, rfl⟩)
        go_ret
        exact ⟨ret_int (by rw [HR.out]; simp [stW, tblB, badStep, twoB, hA, hn, hp]), by (repeat' (first | (with_reducible exact Below.refl _ _) | (with_reducible assumption) | (with_reducible refine below_drewN ?_ _) | (with_reducible refine Below.drew ?_) | (with_reducible refine Below.alloc ?_ ?_ _) | (with_reducible refine Below.setCell ?_ ?_ _) | (refine Below.trans ?_ (Below.mono (by assumption) ?_)) | go_size))⟩
      · have hp' : ((0 : Int) < (sl.length : Int)) = True := eq_true (by have := of_decide_eq_true hp; omega)
        have hA2 := wiB_iff.1 hA
        obtain ⟨ja, rfl⟩ : ∃ ja : Nat, sa = (ja : Int) := ⟨sa.toNat, by omega⟩
        have hja : ja < W.length := by omega
        obtain ⟨bw, ow, rfl, hbw, va⟩ := HRW.out.int' hja
        obtain rfl : sb = 0 := by simpa using hn
        obtain ⟨jb, hjb0⟩ : ∃ jb : Nat, jb = 0 := ⟨0, rfl⟩
        have hjb : jb < W.length := by omega
        obtain ⟨bw', ow', e', -, vb⟩ := HRW.out.int' hjb
        injection e' with e'
        injection e' with q1 q2
        subst q1 q2
        subst hjb0
        simp only [Nat.add_zero] at vb
        have hu := hr W[ja] (List.getElem_mem hja)
        have hv := hr W[0] (List.getElem_mem hjb)
        have HE : Hid (R = ofW ⟨3, ja, 0, sc, so, sv, sl⟩ W[ja] W[0]) := hid (by
          rw [HR.out]
          have e1 : W.getD ja 0 = W[ja] := by rw [List.getD_eq_getElem?_getD, List.getElem?_eq_getElem hja]; rfl
          have e2 : W.getD 0 0 = W[0] := by rw [List.getD_eq_getElem?_getD, List.getElem?_eq_getElem hjb]; rfl
          have e3 : badStep ⟨3, ja, 0, sc, so, sv, sl⟩ ((W.length : Int) - 1) = false := by simp [badStep, twoB, hA, hn, hp]
          unfold stW
          simp only [e3, Int.toNat_natCast, e1]
          rw [if_neg (by omega), if_neg (by simp)]
          rw [show ((0 : Int)).toNat = 0 from rfl, e2])
        generalize W[ja] = u at *
        generalize W[0] = v at *
        have HOF := hid (fun w1 (hbb : Below w.heap.size w w1) => of_any' ⟨⟨3, ja, 0, sc, so, sv, sl⟩, sA, sK⟩ u v w1 (by omega) (by omega) (HL.out.step hbb) hll)
        simp only [SR.cells] at HOF
        rw [← HE.out] at HOF
        obtain ⟨W1, hW1⟩ : ∃ W1 : World, W1 = w.alloc (.cells #[.int .i64 3, .int .i64 (ja : Int), .int .i64 0, .int .i64 sc, .int .i64 so, .int .i64 sv, .slice sA sl.length sK] 89) := ⟨_, rfl⟩
        have HX := hid (show Blk W1 w.heap.size #[.int .i64 3, .int .i64 (ja : Int), .int .i64 0, .int .i64 sc, .int .i64 so, .int .i64 sv, .slice sA sl.length sK] 89 by rw [hW1]; exact Blk.new _ _ _)
        have HB1 := hid (show Below w.heap.size w W1 by rw [hW1]; (repeat' (first | (with_reducible exact Below.refl _ _) | (with_reducible assumption) | (with_reducible refine below_drewN ?_ _) | (with_reducible refine Below.drew ?_) | (with_reducible refine Below.alloc ?_ ?_ _) | (with_reducible refine Below.setCell ?_ ?_ _) | (refine Below.trans ?_ (Below.mono (by assumption) ?_)) | go_size)))
        have va' := ((bcell HB1.out).1 bw _ hbw).trans va
        have vb' := ((bcell HB1.out).1 bw _ hbw).trans vb
        have hbw' : bw < W1.heap.size := Nat.lt_of_lt_of_le hbw HB1.out.size
        have hjal : (ja : Int) < (W.length : Int) := by omega
        have h0l : (0 : Int) < (W.length : Int) := by omega
        clear va vb hbw HR HE hA2
        go_enter Tryz.func107, Tryz.ntmps107
        go_wp2_with (go_at_call 131; refine (qwithin_any _ _ _ _).mono ?_; rintro e w' ⟨rfl, rfl⟩)
        rw [← hW1]
        clear hW1
        obtain ⟨cHX, fHX, sHX, nHX⟩ := HX.out.all
        try simp only [cbox] at cHX
        refine region_ext (by kernel_rfl) (by kernel_rfl) (fun hext => ?_)
        repeat (any_goals ((with_reducible refine wpQuiet_step (fun K hK => ?_)); go_simp; first | (with_reducible refine hK _ ?_; clear hK K) | ((with_reducible apply Exists.intro); (with_reducible refine ⟨fun _ => ?_, hK _ ?_⟩); ((go_at_call 132; (with_reducible refine ext_call _ ?_ (HOF.out _ (Below.step' HB1.out (Ext.below _)))); simp)); clear hK K) | ((with_reducible refine (if_neg ?_).mpr (hK _ ?_)); (decide); clear hK K) | (split <;> (with_reducible refine hK _ ?_; clear hK K))))
        all_goals ((with_reducible refine wpQuiet_nil ?_); clear hext; intro w1 hx1; have hb1 := ext_below hx1; clear hx1)
        have HB2 := hid (Below.step' HB1.out hb1)
        clear hb1
        go_wp2
        go_ret
        exact ⟨rfl, HB2.out⟩
    · have hn' : (sb == 0) = false := by rw [Bool.eq_false_iff]; simpa using hn
      go_enter Tryz.func107, Tryz.ntmps107
      go_wp2_with (go_at_call 131; refine (qwithin_any _ _ _ _).mono ?_; rintro e w' ⟨rfl, rfl⟩)
      go_ret
      exact ⟨ret_int (by rw [HR.out]; simp [stW, tblB, badStep, twoB, hA, hn]), by (repeat' (first | (with_reducible exact Below.refl _ _) | (with_reducible assumption) | (with_reducible refine below_drewN ?_ _) | (with_reducible refine Below.drew ?_) | (with_reducible refine Below.alloc ?_ ?_ _) | (with_reducible refine Below.setCell ?_ ?_ _) | (refine Below.trans ?_ (Below.mono (by assumption) ?_)) | go_size))⟩
set_option maxHeartbeats 1000000 in
set_option maxRecDepth 100000 in
theorem width_k4 (sa sb sc so sv : Int) (sl : List Int) (sA : Option Addr) (sK : Nat) (W : List Int) (WA : Option Addr) (Wc : Nat) (w : World) (hl : Row w w.heap.size sA (icells' sl)) (hll : sl.length ≤ 9223372036854775807) (hW : Row w w.heap.size WA (icells' W)) (hW8 : W.length ≤ 8) (hr : ∀ v ∈ W, 1 ≤ v ∧ v ≤ 8) :
    Calls Tryz.prog 107 #[.agg #[.int .i64 4, .int .i64 sa, .int .i64 sb, .int .i64 sc, .int .i64 so, .int .i64 sv, .slice sA sl.length sK], .slice WA W.length Wc] w fun e w' => e = .returned (.int .i64 (stW ⟨4, sa, sb, sc, so, sv, sl⟩ W)) ∧ Below w.heap.size w w' := by
  obtain ⟨R, hR⟩ : ∃ R, R = stW ⟨4, sa, sb, sc, so, sv, sl⟩ W := ⟨_, rfl⟩
  rw [← hR]
  have HR := hid hR
  clear hR
  have HL := hid hl
  have HRW := hid hW
  clear hl hW
  have hwl : IntKind.i64.wrap ((W.length : Int) - 1) = (W.length : Int) - 1 := IntWalk.i64_in _ (by omega)
  cases hA : wiB sa 0 ((W.length : Int) - 1)
  · go_enter Tryz.func107, Tryz.ntmps107
    go_wp2_with (go_at_call 131; refine (qwithin_any _ _ _ _).mono ?_; rintro e w' ⟨rfl, rfl⟩)
    go_ret
    exact ⟨ret_int (by rw [HR.out]; simp [stW, tblB, badStep, twoB, hA]), by (repeat' (first | (with_reducible exact Below.refl _ _) | (with_reducible assumption) | (with_reducible refine below_drewN ?_ _) | (with_reducible refine Below.drew ?_) | (with_reducible refine Below.alloc ?_ ?_ _) | (with_reducible refine Below.setCell ?_ ?_ _) | (refine Below.trans ?_ (Below.mono (by assumption) ?_)) | go_size))⟩
  · cases hB : wiB sb 0 ((W.length : Int) - 1)
    · go_enter Tryz.func107, Tryz.ntmps107
      go_wp2_with (go_at_call 131; refine (qwithin_any _ _ _ _).mono ?_; rintro e w' ⟨rfl, rfl⟩)
      go_ret
      exact ⟨ret_int (by rw [HR.out]; simp [stW, tblB, badStep, twoB, hA, hB]), by (repeat' (first | (with_reducible exact Below.refl _ _) | (with_reducible assumption) | (with_reducible refine below_drewN ?_ _) | (with_reducible refine Below.drew ?_) | (with_reducible refine Below.alloc ?_ ?_ _) | (with_reducible refine Below.setCell ?_ ?_ _) | (refine Below.trans ?_ (Below.mono (by assumption) ?_)) | go_size))⟩
    · cases hp : decide (0 < sl.length)
      · have hp' : ((0 : Int) < (sl.length : Int)) = False := eq_false (by have := of_decide_eq_false hp; omega)
        have hA2 := wiB_iff.1 hA
        obtain ⟨ja, rfl⟩ : ∃ ja : Nat, sa = (ja : Int) := ⟨sa.toNat, by omega⟩
        have hja : ja < W.length := by omega
        obtain ⟨bw, ow, rfl, hbw, va⟩ := HRW.out.int' hja
        have hB2 := wiB_iff.1 hB
        obtain ⟨jb, rfl⟩ : ∃ jb : Nat, sb = (jb : Int) := ⟨sb.toNat, by omega⟩
        have hjb : jb < W.length := by omega
        obtain ⟨bw', ow', e', -, vb⟩ := HRW.out.int' hjb
        injection e' with e'
        injection e' with q1 q2
        subst q1 q2
        have hu := hr W[ja] (List.getElem_mem hja)
        have hv := hr W[jb] (List.getElem_mem hjb)
        have HE : Hid (R = ofW ⟨4, ja, (jb : Int), sc, so, sv, sl⟩ W[ja] W[jb]) := hid (by
          rw [HR.out]
          have e1 : W.getD ja 0 = W[ja] := by rw [List.getD_eq_getElem?_getD, List.getElem?_eq_getElem hja]; rfl
          have e2 : W.getD jb 0 = W[jb] := by rw [List.getD_eq_getElem?_getD, List.getElem?_eq_getElem hjb]; rfl
          have e3 : badStep ⟨4, ja, (jb : Int), sc, so, sv, sl⟩ ((W.length : Int) - 1) = false := by simp [badStep, twoB, hA, hB, hp]
          unfold stW
          simp only [e3, Int.toNat_natCast, e1]
          rw [if_neg (by omega), if_neg (by simp)]
          rw [e2])
        generalize W[ja] = u at *
        generalize W[jb] = v at *
        have HOF := hid (fun w1 (hbb : Below w.heap.size w w1) => of_any' ⟨⟨4, ja, (jb : Int), sc, so, sv, sl⟩, sA, sK⟩ u v w1 (by omega) (by omega) (HL.out.step hbb) hll)
        simp only [SR.cells] at HOF
        rw [← HE.out] at HOF
        obtain ⟨W1, hW1⟩ : ∃ W1 : World, W1 = w.alloc (.cells #[.int .i64 4, .int .i64 (ja : Int), .int .i64 (jb : Int), .int .i64 sc, .int .i64 so, .int .i64 sv, .slice sA sl.length sK] 89) := ⟨_, rfl⟩
        have HX := hid (show Blk W1 w.heap.size #[.int .i64 4, .int .i64 (ja : Int), .int .i64 (jb : Int), .int .i64 sc, .int .i64 so, .int .i64 sv, .slice sA sl.length sK] 89 by rw [hW1]; exact Blk.new _ _ _)
        have HB1 := hid (show Below w.heap.size w W1 by rw [hW1]; (repeat' (first | (with_reducible exact Below.refl _ _) | (with_reducible assumption) | (with_reducible refine below_drewN ?_ _) | (with_reducible refine Below.drew ?_) | (with_reducible refine Below.alloc ?_ ?_ _) | (with_reducible refine Below.setCell ?_ ?_ _) | (refine Below.trans ?_ (Below.mono (by assumption) ?_)) | go_size)))
        have va' := ((bcell HB1.out).1 bw _ hbw).trans va
        have vb' := ((bcell HB1.out).1 bw _ hbw).trans vb
        have hbw' : bw < W1.heap.size := Nat.lt_of_lt_of_le hbw HB1.out.size
        have hjal : (ja : Int) < (W.length : Int) := by omega
        have hjbl : (jb : Int) < (W.length : Int) := by omega
        have h0l : (0 : Int) < (W.length : Int) := by omega
        clear va vb hbw HR HE hA2 hB2
        go_enter Tryz.func107, Tryz.ntmps107
        go_wp2_with (go_at_call 131; refine (qwithin_any _ _ _ _).mono ?_; rintro e w' ⟨rfl, rfl⟩)
        rw [← hW1]
        clear hW1
        obtain ⟨cHX, fHX, sHX, nHX⟩ := HX.out.all
        try simp only [cbox] at cHX
        refine region_ext (by kernel_rfl) (by kernel_rfl) (fun hext => ?_)
        repeat (any_goals ((with_reducible refine wpQuiet_step (fun K hK => ?_)); go_simp; first | (with_reducible refine hK _ ?_; clear hK K) | ((with_reducible apply Exists.intro); (with_reducible refine ⟨fun _ => ?_, hK _ ?_⟩); ((go_at_call 132; (with_reducible refine ext_call _ ?_ (HOF.out _ (Below.step' HB1.out (Ext.below _)))); simp)); clear hK K) | ((with_reducible refine (if_neg ?_).mpr (hK _ ?_)); (decide); clear hK K) | (split <;> (with_reducible refine hK _ ?_; clear hK K))))
        all_goals ((with_reducible refine wpQuiet_nil ?_); clear hext; intro w1 hx1; have hb1 := ext_below hx1; clear hx1)
        have HB2 := hid (Below.step' HB1.out hb1)
        clear hb1
        go_wp2
        go_ret
        exact ⟨rfl, HB2.out⟩
      · have hp' : ((0 : Int) < (sl.length : Int)) = True := eq_true (by have := of_decide_eq_true hp; omega)
        go_enter Tryz.func107, Tryz.ntmps107
        go_wp2_with (go_at_call 131; refine (qwithin_any _ _ _ _).mono ?_; rintro e w' ⟨rfl, rfl⟩)
        go_ret
        exact ⟨ret_int (by rw [HR.out]; simp [stW, tblB, badStep, twoB, hA, hB, hp]), by (repeat' (first | (with_reducible exact Below.refl _ _) | (with_reducible assumption) | (with_reducible refine below_drewN ?_ _) | (with_reducible refine Below.drew ?_) | (with_reducible refine Below.alloc ?_ ?_ _) | (with_reducible refine Below.setCell ?_ ?_ _) | (refine Below.trans ?_ (Below.mono (by assumption) ?_)) | go_size))⟩
set_option maxHeartbeats 1000000 in
set_option maxRecDepth 100000 in
theorem width_k5 (sa sb sc so sv : Int) (sl : List Int) (sA : Option Addr) (sK : Nat) (W : List Int) (WA : Option Addr) (Wc : Nat) (w : World) (hl : Row w w.heap.size sA (icells' sl)) (hll : sl.length ≤ 9223372036854775807) (hW : Row w w.heap.size WA (icells' W)) (hW8 : W.length ≤ 8) (hr : ∀ v ∈ W, 1 ≤ v ∧ v ≤ 8) :
    Calls Tryz.prog 107 #[.agg #[.int .i64 5, .int .i64 sa, .int .i64 sb, .int .i64 sc, .int .i64 so, .int .i64 sv, .slice sA sl.length sK], .slice WA W.length Wc] w fun e w' => e = .returned (.int .i64 (stW ⟨5, sa, sb, sc, so, sv, sl⟩ W)) ∧ Below w.heap.size w w' := by
  obtain ⟨R, hR⟩ : ∃ R, R = stW ⟨5, sa, sb, sc, so, sv, sl⟩ W := ⟨_, rfl⟩
  rw [← hR]
  have HR := hid hR
  clear hR
  have HL := hid hl
  have HRW := hid hW
  clear hl hW
  have hwl : IntKind.i64.wrap ((W.length : Int) - 1) = (W.length : Int) - 1 := IntWalk.i64_in _ (by omega)
  cases hA : wiB sa 0 ((W.length : Int) - 1)
  · go_enter Tryz.func107, Tryz.ntmps107
    go_wp2_with (go_at_call 131; refine (qwithin_any _ _ _ _).mono ?_; rintro e w' ⟨rfl, rfl⟩)
    go_ret
    exact ⟨ret_int (by rw [HR.out]; simp [stW, tblB, badStep, twoB, hA]), by (repeat' (first | (with_reducible exact Below.refl _ _) | (with_reducible assumption) | (with_reducible refine below_drewN ?_ _) | (with_reducible refine Below.drew ?_) | (with_reducible refine Below.alloc ?_ ?_ _) | (with_reducible refine Below.setCell ?_ ?_ _) | (refine Below.trans ?_ (Below.mono (by assumption) ?_)) | go_size))⟩
  · cases hB : wiB sb 0 ((W.length : Int) - 1)
    · go_enter Tryz.func107, Tryz.ntmps107
      go_wp2_with (go_at_call 131; refine (qwithin_any _ _ _ _).mono ?_; rintro e w' ⟨rfl, rfl⟩)
      go_ret
      exact ⟨ret_int (by rw [HR.out]; simp [stW, tblB, badStep, twoB, hA, hB]), by (repeat' (first | (with_reducible exact Below.refl _ _) | (with_reducible assumption) | (with_reducible refine below_drewN ?_ _) | (with_reducible refine Below.drew ?_) | (with_reducible refine Below.alloc ?_ ?_ _) | (with_reducible refine Below.setCell ?_ ?_ _) | (refine Below.trans ?_ (Below.mono (by assumption) ?_)) | go_size))⟩
    · cases hp : decide (0 < sl.length)
      · have hp' : ((0 : Int) < (sl.length : Int)) = False := eq_false (by have := of_decide_eq_false hp; omega)
        have hA2 := wiB_iff.1 hA
        obtain ⟨ja, rfl⟩ : ∃ ja : Nat, sa = (ja : Int) := ⟨sa.toNat, by omega⟩
        have hja : ja < W.length := by omega
        obtain ⟨bw, ow, rfl, hbw, va⟩ := HRW.out.int' hja
        have hB2 := wiB_iff.1 hB
        obtain ⟨jb, rfl⟩ : ∃ jb : Nat, sb = (jb : Int) := ⟨sb.toNat, by omega⟩
        have hjb : jb < W.length := by omega
        obtain ⟨bw', ow', e', -, vb⟩ := HRW.out.int' hjb
        injection e' with e'
        injection e' with q1 q2
        subst q1 q2
        have hu := hr W[ja] (List.getElem_mem hja)
        have hv := hr W[jb] (List.getElem_mem hjb)
        have HE : Hid (R = ofW ⟨5, ja, (jb : Int), sc, so, sv, sl⟩ W[ja] W[jb]) := hid (by
          rw [HR.out]
          have e1 : W.getD ja 0 = W[ja] := by rw [List.getD_eq_getElem?_getD, List.getElem?_eq_getElem hja]; rfl
          have e2 : W.getD jb 0 = W[jb] := by rw [List.getD_eq_getElem?_getD, List.getElem?_eq_getElem hjb]; rfl
          have e3 : badStep ⟨5, ja, (jb : Int), sc, so, sv, sl⟩ ((W.length : Int) - 1) = false := by simp [badStep, twoB, hA, hB, hp]
          unfold stW
          simp only [e3, Int.toNat_natCast, e1]
          rw [if_neg (by omega), if_neg (by simp)]
          rw [e2])
        generalize W[ja] = u at *
        generalize W[jb] = v at *
        have HOF := hid (fun w1 (hbb : Below w.heap.size w w1) => of_any' ⟨⟨5, ja, (jb : Int), sc, so, sv, sl⟩, sA, sK⟩ u v w1 (by omega) (by omega) (HL.out.step hbb) hll)
        simp only [SR.cells] at HOF
        rw [← HE.out] at HOF
        obtain ⟨W1, hW1⟩ : ∃ W1 : World, W1 = w.alloc (.cells #[.int .i64 5, .int .i64 (ja : Int), .int .i64 (jb : Int), .int .i64 sc, .int .i64 so, .int .i64 sv, .slice sA sl.length sK] 89) := ⟨_, rfl⟩
        have HX := hid (show Blk W1 w.heap.size #[.int .i64 5, .int .i64 (ja : Int), .int .i64 (jb : Int), .int .i64 sc, .int .i64 so, .int .i64 sv, .slice sA sl.length sK] 89 by rw [hW1]; exact Blk.new _ _ _)
        have HB1 := hid (show Below w.heap.size w W1 by rw [hW1]; (repeat' (first | (with_reducible exact Below.refl _ _) | (with_reducible assumption) | (with_reducible refine below_drewN ?_ _) | (with_reducible refine Below.drew ?_) | (with_reducible refine Below.alloc ?_ ?_ _) | (with_reducible refine Below.setCell ?_ ?_ _) | (refine Below.trans ?_ (Below.mono (by assumption) ?_)) | go_size)))
        have va' := ((bcell HB1.out).1 bw _ hbw).trans va
        have vb' := ((bcell HB1.out).1 bw _ hbw).trans vb
        have hbw' : bw < W1.heap.size := Nat.lt_of_lt_of_le hbw HB1.out.size
        have hjal : (ja : Int) < (W.length : Int) := by omega
        have hjbl : (jb : Int) < (W.length : Int) := by omega
        have h0l : (0 : Int) < (W.length : Int) := by omega
        clear va vb hbw HR HE hA2 hB2
        go_enter Tryz.func107, Tryz.ntmps107
        go_wp2_with (go_at_call 131; refine (qwithin_any _ _ _ _).mono ?_; rintro e w' ⟨rfl, rfl⟩)
        rw [← hW1]
        clear hW1
        obtain ⟨cHX, fHX, sHX, nHX⟩ := HX.out.all
        try simp only [cbox] at cHX
        refine region_ext (by kernel_rfl) (by kernel_rfl) (fun hext => ?_)
        repeat (any_goals ((with_reducible refine wpQuiet_step (fun K hK => ?_)); go_simp; first | (with_reducible refine hK _ ?_; clear hK K) | ((with_reducible apply Exists.intro); (with_reducible refine ⟨fun _ => ?_, hK _ ?_⟩); ((go_at_call 132; (with_reducible refine ext_call _ ?_ (HOF.out _ (Below.step' HB1.out (Ext.below _)))); simp)); clear hK K) | ((with_reducible refine (if_neg ?_).mpr (hK _ ?_)); (decide); clear hK K) | (split <;> (with_reducible refine hK _ ?_; clear hK K))))
        all_goals ((with_reducible refine wpQuiet_nil ?_); clear hext; intro w1 hx1; have hb1 := ext_below hx1; clear hx1)
        have HB2 := hid (Below.step' HB1.out hb1)
        clear hb1
        go_wp2
        go_ret
        exact ⟨rfl, HB2.out⟩
      · have hp' : ((0 : Int) < (sl.length : Int)) = True := eq_true (by have := of_decide_eq_true hp; omega)
        go_enter Tryz.func107, Tryz.ntmps107
        go_wp2_with (go_at_call 131; refine (qwithin_any _ _ _ _).mono ?_; rintro e w' ⟨rfl, rfl⟩)
        go_ret
        exact ⟨ret_int (by rw [HR.out]; simp [stW, tblB, badStep, twoB, hA, hB, hp]), by (repeat' (first | (with_reducible exact Below.refl _ _) | (with_reducible assumption) | (with_reducible refine below_drewN ?_ _) | (with_reducible refine Below.drew ?_) | (with_reducible refine Below.alloc ?_ ?_ _) | (with_reducible refine Below.setCell ?_ ?_ _) | (refine Below.trans ?_ (Below.mono (by assumption) ?_)) | go_size))⟩
set_option maxHeartbeats 1000000 in
set_option maxRecDepth 100000 in
theorem width_k6 (sa sb sc so sv : Int) (sl : List Int) (sA : Option Addr) (sK : Nat) (W : List Int) (WA : Option Addr) (Wc : Nat) (w : World) (hl : Row w w.heap.size sA (icells' sl)) (hll : sl.length ≤ 9223372036854775807) (hW : Row w w.heap.size WA (icells' W)) (hW8 : W.length ≤ 8) (hr : ∀ v ∈ W, 1 ≤ v ∧ v ≤ 8) :
    Calls Tryz.prog 107 #[.agg #[.int .i64 6, .int .i64 sa, .int .i64 sb, .int .i64 sc, .int .i64 so, .int .i64 sv, .slice sA sl.length sK], .slice WA W.length Wc] w fun e w' => e = .returned (.int .i64 (stW ⟨6, sa, sb, sc, so, sv, sl⟩ W)) ∧ Below w.heap.size w w' := by
  obtain ⟨R, hR⟩ : ∃ R, R = stW ⟨6, sa, sb, sc, so, sv, sl⟩ W := ⟨_, rfl⟩
  rw [← hR]
  have HR := hid hR
  clear hR
  have HL := hid hl
  have HRW := hid hW
  clear hl hW
  have hwl : IntKind.i64.wrap ((W.length : Int) - 1) = (W.length : Int) - 1 := IntWalk.i64_in _ (by omega)
  cases hA : wiB sa 0 ((W.length : Int) - 1)
  · go_enter Tryz.func107, Tryz.ntmps107
    go_wp2_with (go_at_call 131; refine (qwithin_any _ _ _ _).mono ?_; rintro e w' ⟨rfl, rfl⟩)
    go_ret
    exact ⟨ret_int (by rw [HR.out]; simp [stW, tblB, badStep, twoB, hA]), by (repeat' (first | (with_reducible exact Below.refl _ _) | (with_reducible assumption) | (with_reducible refine below_drewN ?_ _) | (with_reducible refine Below.drew ?_) | (with_reducible refine Below.alloc ?_ ?_ _) | (with_reducible refine Below.setCell ?_ ?_ _) | (refine Below.trans ?_ (Below.mono (by assumption) ?_)) | go_size))⟩
  · cases hB : wiB sb 0 ((W.length : Int) - 1)
    · go_enter Tryz.func107, Tryz.ntmps107
      go_wp2_with (go_at_call 131; refine (qwithin_any _ _ _ _).mono ?_; rintro e w' ⟨rfl, rfl⟩)
      go_ret
      exact ⟨ret_int (by rw [HR.out]; simp [stW, tblB, badStep, twoB, hA, hB]), by (repeat' (first | (with_reducible exact Below.refl _ _) | (with_reducible assumption) | (with_reducible refine below_drewN ?_ _) | (with_reducible refine Below.drew ?_) | (with_reducible refine Below.alloc ?_ ?_ _) | (with_reducible refine Below.setCell ?_ ?_ _) | (refine Below.trans ?_ (Below.mono (by assumption) ?_)) | go_size))⟩
    · cases hp : decide (0 < sl.length)
      · have hp' : ((0 : Int) < (sl.length : Int)) = False := eq_false (by have := of_decide_eq_false hp; omega)
        have hA2 := wiB_iff.1 hA
        obtain ⟨ja, rfl⟩ : ∃ ja : Nat, sa = (ja : Int) := ⟨sa.toNat, by omega⟩
        have hja : ja < W.length := by omega
        obtain ⟨bw, ow, rfl, hbw, va⟩ := HRW.out.int' hja
        have hB2 := wiB_iff.1 hB
        obtain ⟨jb, rfl⟩ : ∃ jb : Nat, sb = (jb : Int) := ⟨sb.toNat, by omega⟩
        have hjb : jb < W.length := by omega
        obtain ⟨bw', ow', e', -, vb⟩ := HRW.out.int' hjb
        injection e' with e'
        injection e' with q1 q2
        subst q1 q2
        have hu := hr W[ja] (List.getElem_mem hja)
        have hv := hr W[jb] (List.getElem_mem hjb)
        have HE : Hid (R = ofW ⟨6, ja, (jb : Int), sc, so, sv, sl⟩ W[ja] W[jb]) := hid (by
          rw [HR.out]
          have e1 : W.getD ja 0 = W[ja] := by rw [List.getD_eq_getElem?_getD, List.getElem?_eq_getElem hja]; rfl
          have e2 : W.getD jb 0 = W[jb] := by rw [List.getD_eq_getElem?_getD, List.getElem?_eq_getElem hjb]; rfl
          have e3 : badStep ⟨6, ja, (jb : Int), sc, so, sv, sl⟩ ((W.length : Int) - 1) = false := by simp [badStep, twoB, hA, hB, hp]
          unfold stW
          simp only [e3, Int.toNat_natCast, e1]
          rw [if_neg (by omega), if_neg (by simp)]
          rw [e2])
        generalize W[ja] = u at *
        generalize W[jb] = v at *
        have HOF := hid (fun w1 (hbb : Below w.heap.size w w1) => of_any' ⟨⟨6, ja, (jb : Int), sc, so, sv, sl⟩, sA, sK⟩ u v w1 (by omega) (by omega) (HL.out.step hbb) hll)
        simp only [SR.cells] at HOF
        rw [← HE.out] at HOF
        obtain ⟨W1, hW1⟩ : ∃ W1 : World, W1 = w.alloc (.cells #[.int .i64 6, .int .i64 (ja : Int), .int .i64 (jb : Int), .int .i64 sc, .int .i64 so, .int .i64 sv, .slice sA sl.length sK] 89) := ⟨_, rfl⟩
        have HX := hid (show Blk W1 w.heap.size #[.int .i64 6, .int .i64 (ja : Int), .int .i64 (jb : Int), .int .i64 sc, .int .i64 so, .int .i64 sv, .slice sA sl.length sK] 89 by rw [hW1]; exact Blk.new _ _ _)
        have HB1 := hid (show Below w.heap.size w W1 by rw [hW1]; (repeat' (first | (with_reducible exact Below.refl _ _) | (with_reducible assumption) | (with_reducible refine below_drewN ?_ _) | (with_reducible refine Below.drew ?_) | (with_reducible refine Below.alloc ?_ ?_ _) | (with_reducible refine Below.setCell ?_ ?_ _) | (refine Below.trans ?_ (Below.mono (by assumption) ?_)) | go_size)))
        have va' := ((bcell HB1.out).1 bw _ hbw).trans va
        have vb' := ((bcell HB1.out).1 bw _ hbw).trans vb
        have hbw' : bw < W1.heap.size := Nat.lt_of_lt_of_le hbw HB1.out.size
        have hjal : (ja : Int) < (W.length : Int) := by omega
        have hjbl : (jb : Int) < (W.length : Int) := by omega
        have h0l : (0 : Int) < (W.length : Int) := by omega
        clear va vb hbw HR HE hA2 hB2
        go_enter Tryz.func107, Tryz.ntmps107
        go_wp2_with (go_at_call 131; refine (qwithin_any _ _ _ _).mono ?_; rintro e w' ⟨rfl, rfl⟩)
        rw [← hW1]
        clear hW1
        obtain ⟨cHX, fHX, sHX, nHX⟩ := HX.out.all
        try simp only [cbox] at cHX
        refine region_ext (by kernel_rfl) (by kernel_rfl) (fun hext => ?_)
        repeat (any_goals ((with_reducible refine wpQuiet_step (fun K hK => ?_)); go_simp; first | (with_reducible refine hK _ ?_; clear hK K) | ((with_reducible apply Exists.intro); (with_reducible refine ⟨fun _ => ?_, hK _ ?_⟩); ((go_at_call 132; (with_reducible refine ext_call _ ?_ (HOF.out _ (Below.step' HB1.out (Ext.below _)))); simp)); clear hK K) | ((with_reducible refine (if_neg ?_).mpr (hK _ ?_)); (decide); clear hK K) | (split <;> (with_reducible refine hK _ ?_; clear hK K))))
        all_goals ((with_reducible refine wpQuiet_nil ?_); clear hext; intro w1 hx1; have hb1 := ext_below hx1; clear hx1)
        have HB2 := hid (Below.step' HB1.out hb1)
        clear hb1
        go_wp2
        go_ret
        exact ⟨rfl, HB2.out⟩
      · have hp' : ((0 : Int) < (sl.length : Int)) = True := eq_true (by have := of_decide_eq_true hp; omega)
        go_enter Tryz.func107, Tryz.ntmps107
        go_wp2_with (go_at_call 131; refine (qwithin_any _ _ _ _).mono ?_; rintro e w' ⟨rfl, rfl⟩)
        go_ret
        exact ⟨ret_int (by rw [HR.out]; simp [stW, tblB, badStep, twoB, hA, hB, hp]), by (repeat' (first | (with_reducible exact Below.refl _ _) | (with_reducible assumption) | (with_reducible refine below_drewN ?_ _) | (with_reducible refine Below.drew ?_) | (with_reducible refine Below.alloc ?_ ?_ _) | (with_reducible refine Below.setCell ?_ ?_ _) | (refine Below.trans ?_ (Below.mono (by assumption) ?_)) | go_size))⟩
set_option maxHeartbeats 1000000 in
set_option maxRecDepth 100000 in
theorem width_k0 (sk sa sb sc so sv : Int) (sl : List Int) (sA : Option Addr) (sK : Nat) (W : List Int) (WA : Option Addr) (Wc : Nat) (w : World) (hl : Row w w.heap.size sA (icells' sl)) (hll : sl.length ≤ 9223372036854775807) (hW : Row w w.heap.size WA (icells' W)) (hW8 : W.length ≤ 8) (hr : ∀ v ∈ W, 1 ≤ v ∧ v ≤ 8) (hk : sk ≠ 1 ∧ sk ≠ 3 ∧ sk ≠ 4 ∧ sk ≠ 5 ∧ sk ≠ 6) :
    Calls Tryz.prog 107 #[.agg #[.int .i64 sk, .int .i64 sa, .int .i64 sb, .int .i64 sc, .int .i64 so, .int .i64 sv, .slice sA sl.length sK], .slice WA W.length Wc] w fun e w' => e = .returned (.int .i64 (stW ⟨sk, sa, sb, sc, so, sv, sl⟩ W)) ∧ Below w.heap.size w w' := by
  obtain ⟨R, hR⟩ : ∃ R, R = stW ⟨sk, sa, sb, sc, so, sv, sl⟩ W := ⟨_, rfl⟩
  rw [← hR]
  have HR := hid hR
  clear hR
  have HL := hid hl
  have HRW := hid hW
  clear hl hW
  have hwl : IntKind.i64.wrap ((W.length : Int) - 1) = (W.length : Int) - 1 := IntWalk.i64_in _ (by omega)
  obtain ⟨k1, k3, k4, k5, k6⟩ := hk
  have e1 : (sk == 1) = false := by simpa using k1
  have e3 : (sk == 3) = false := by simpa using k3
  have e4 : (sk == 4) = false := by simpa using k4
  have e5 : (sk == 5) = false := by simpa using k5
  have e6 : (sk == 6) = false := by simpa using k6
  cases hA : wiB sa 0 ((W.length : Int) - 1)
  · go_enter Tryz.func107, Tryz.ntmps107
    go_wp2_with (go_at_call 131; refine (qwithin_any _ _ _ _).mono ?_; rintro e w' ⟨rfl, rfl⟩)
    go_ret
    exact ⟨ret_int (by rw [HR.out]; simp [stW, tblB, badStep, twoB, hA, k1, k3, k4, k5, k6]), by (repeat' (first | (with_reducible exact Below.refl _ _) | (with_reducible assumption) | (with_reducible refine below_drewN ?_ _) | (with_reducible refine Below.drew ?_) | (with_reducible refine Below.alloc ?_ ?_ _) | (with_reducible refine Below.setCell ?_ ?_ _) | (refine Below.trans ?_ (Below.mono (by assumption) ?_)) | go_size))⟩
  · cases hn : (sb != 0)
    · have hn' : (sb == 0) = true := by rw [Bool.eq_iff_iff]; simpa using hn
      cases hp : decide (0 < sl.length)
      · have hp' : ((0 : Int) < (sl.length : Int)) = False := eq_false (by have := of_decide_eq_false hp; omega)
        have hA2 := wiB_iff.1 hA
        obtain ⟨ja, rfl⟩ : ∃ ja : Nat, sa = (ja : Int) := ⟨sa.toNat, by omega⟩
        have hja : ja < W.length := by omega
        obtain ⟨bw, ow, rfl, hbw, va⟩ := HRW.out.int' hja
        obtain rfl : sb = 0 := by simpa using hn
        obtain ⟨jb, hjb0⟩ : ∃ jb : Nat, jb = 0 := ⟨0, rfl⟩
        have hjb : jb < W.length := by omega
        obtain ⟨bw', ow', e', -, vb⟩ := HRW.out.int' hjb
        injection e' with e'
        injection e' with q1 q2
        subst q1 q2
        subst hjb0
        simp only [Nat.add_zero] at vb
        have hu := hr W[ja] (List.getElem_mem hja)
        have hv := hr W[0] (List.getElem_mem hjb)
        have HE : Hid (R = ofW ⟨sk, ja, 0, sc, so, sv, sl⟩ W[ja] W[0]) := hid (by
          rw [HR.out]
          have e1 : W.getD ja 0 = W[ja] := by rw [List.getD_eq_getElem?_getD, List.getElem?_eq_getElem hja]; rfl
          have e2 : W.getD 0 0 = W[0] := by rw [List.getD_eq_getElem?_getD, List.getElem?_eq_getElem hjb]; rfl
          have e3 : badStep ⟨sk, ja, 0, sc, so, sv, sl⟩ ((W.length : Int) - 1) = false := by simp [badStep, twoB, hA, hn, hp, k1, k3, k4, k5, k6]
          unfold stW
          simp only [e3, Int.toNat_natCast, e1]
          rw [if_neg (by omega), if_neg (by simp)]
          rw [show ((0 : Int)).toNat = 0 from rfl, e2])
        generalize W[ja] = u at *
        generalize W[0] = v at *
        have HOF := hid (fun w1 (hbb : Below w.heap.size w w1) => of_any' ⟨⟨sk, ja, 0, sc, so, sv, sl⟩, sA, sK⟩ u v w1 (by omega) (by omega) (HL.out.step hbb) hll)
        simp only [SR.cells] at HOF
        rw [← HE.out] at HOF
        obtain ⟨W1, hW1⟩ : ∃ W1 : World, W1 = w.alloc (.cells #[.int .i64 sk, .int .i64 (ja : Int), .int .i64 0, .int .i64 sc, .int .i64 so, .int .i64 sv, .slice sA sl.length sK] 89) := ⟨_, rfl⟩
        have HX := hid (show Blk W1 w.heap.size #[.int .i64 sk, .int .i64 (ja : Int), .int .i64 0, .int .i64 sc, .int .i64 so, .int .i64 sv, .slice sA sl.length sK] 89 by rw [hW1]; exact Blk.new _ _ _)
        have HB1 := hid (show Below w.heap.size w W1 by rw [hW1]; (repeat' (first | (with_reducible exact Below.refl _ _) | (with_reducible assumption) | (with_reducible refine below_drewN ?_ _) | (with_reducible refine Below.drew ?_) | (with_reducible refine Below.alloc ?_ ?_ _) | (with_reducible refine Below.setCell ?_ ?_ _) | (refine Below.trans ?_ (Below.mono (by assumption) ?_)) | go_size)))
        have va' := ((bcell HB1.out).1 bw _ hbw).trans va
        have vb' := ((bcell HB1.out).1 bw _ hbw).trans vb
        have hbw' : bw < W1.heap.size := Nat.lt_of_lt_of_le hbw HB1.out.size
        have hjal : (ja : Int) < (W.length : Int) := by omega
        have h0l : (0 : Int) < (W.length : Int) := by omega
        clear va vb hbw HR HE hA2
        go_enter Tryz.func107, Tryz.ntmps107
        go_wp2_with (go_at_call 131; refine (qwithin_any _ _ _ _).mono ?_; rintro e w' ⟨rfl, rfl⟩)
        rw [← hW1]
        clear hW1
        obtain ⟨cHX, fHX, sHX, nHX⟩ := HX.out.all
        try simp only [cbox] at cHX
        refine region_ext (by kernel_rfl) (by kernel_rfl) (fun hext => ?_)
        repeat (any_goals ((with_reducible refine wpQuiet_step (fun K hK => ?_)); go_simp; first | (with_reducible refine hK _ ?_; clear hK K) | ((with_reducible apply Exists.intro); (with_reducible refine ⟨fun _ => ?_, hK _ ?_⟩); ((go_at_call 132; (with_reducible refine ext_call _ ?_ (HOF.out _ (Below.step' HB1.out (Ext.below _)))); simp)); clear hK K) | ((with_reducible refine (if_neg ?_).mpr (hK _ ?_)); (decide); clear hK K) | (split <;> (with_reducible refine hK _ ?_; clear hK K))))
        all_goals ((with_reducible refine wpQuiet_nil ?_); clear hext; intro w1 hx1; have hb1 := ext_below hx1; clear hx1)
        have HB2 := hid (Below.step' HB1.out hb1)
        clear hb1
        go_wp2
        go_ret
        exact ⟨rfl, HB2.out⟩
      · have hp' : ((0 : Int) < (sl.length : Int)) = True := eq_true (by have := of_decide_eq_true hp; omega)
        go_enter Tryz.func107, Tryz.ntmps107
        go_wp2_with (go_at_call 131; refine (qwithin_any _ _ _ _).mono ?_; rintro e w' ⟨rfl, rfl⟩)
        go_ret
        exact ⟨ret_int (by rw [HR.out]; simp [stW, tblB, badStep, twoB, hA, hn, hp, k1, k3, k4, k5, k6]), by (repeat' (first | (with_reducible exact Below.refl _ _) | (with_reducible assumption) | (with_reducible refine below_drewN ?_ _) | (with_reducible refine Below.drew ?_) | (with_reducible refine Below.alloc ?_ ?_ _) | (with_reducible refine Below.setCell ?_ ?_ _) | (refine Below.trans ?_ (Below.mono (by assumption) ?_)) | go_size))⟩
    · have hn' : (sb == 0) = false := by rw [Bool.eq_false_iff]; simpa using hn
      go_enter Tryz.func107, Tryz.ntmps107
      go_wp2_with (go_at_call 131; refine (qwithin_any _ _ _ _).mono ?_; rintro e w' ⟨rfl, rfl⟩)
      go_ret
      exact ⟨ret_int (by rw [HR.out]; simp [stW, tblB, badStep, twoB, hA, hn, k1, k3, k4, k5, k6]), by (repeat' (first | (with_reducible exact Below.refl _ _) | (with_reducible assumption) | (with_reducible refine below_drewN ?_ _) | (with_reducible refine Below.drew ?_) | (with_reducible refine Below.alloc ?_ ?_ _) | (with_reducible refine Below.setCell ?_ ?_ _) | (refine Below.trans ?_ (Below.mono (by assumption) ?_)) | go_size))⟩

/-- query.width tells a step's width by those ahead. -/
theorem width_any' (x : SR) (W : List Int) (WA : Option Addr) (Wc : Nat) (w : World) (hl : Row w w.heap.size x.A (icells' x.st.list)) (hll : x.st.list.length ≤ 9223372036854775807) (hW : Row w w.heap.size WA (icells' W)) (hW8 : W.length ≤ 8) (hr : ∀ v ∈ W, 1 ≤ v ∧ v ≤ 8) :
    Calls Tryz.prog 107 #[.agg x.cells.toArray, .slice WA W.length Wc] w fun e w' => e = .returned (.int .i64 (stW x.st W)) ∧ Below w.heap.size w w' := by
  obtain ⟨⟨sk, sa, sb, sc, so, sv, sl⟩, sA, sK⟩ := x
  simp only at hl hll
  by_cases k1 : sk = 1
  · subst k1; exact width_k1 sa sb sc so sv sl sA sK W WA Wc w hl hll hW hW8 hr
  by_cases k3 : sk = 3
  · subst k3; exact width_k3 sa sb sc so sv sl sA sK W WA Wc w hl hll hW hW8 hr
  by_cases k4 : sk = 4
  · subst k4; exact width_k4 sa sb sc so sv sl sA sK W WA Wc w hl hll hW hW8 hr
  by_cases k5 : sk = 5
  · subst k5; exact width_k5 sa sb sc so sv sl sA sK W WA Wc w hl hll hW hW8 hr
  by_cases k6 : sk = 6
  · subst k6; exact width_k6 sa sb sc so sv sl sA sK W WA Wc w hl hll hW hW8 hr
  exact width_k0 sk sa sb sc so sv sl sA sK W WA Wc w hl hll hW hW8 hr ⟨k1, k3, k4, k5, k6⟩
end Go.Proofs.YtldlmkfigjicgaaGreatDoor
/- zset.Norm, Add; what a right set is. -/
namespace Go.Proofs.YtldlmkfigjicgaaGreatDoor
set_option linter.unusedVariables false
set_option linter.unusedSimpArgs false
open Go.ChangeShapes Go.WideShapes Go.ChangeAt Go.RowKit


/-- Sum, Done: over lists that lie where they lay. -/
theorem lens_of {M : List IR} (h : ∀ x ∈ its M, badB x = false) : ∀ x ∈ M, x.row.length ≤ 1048576 := fun x hx => by
  have := badB_false (h x.it (List.mem_map.2 ⟨x, hx, rfl⟩))
  simp only [IR.it] at this
  omega

end Go.Proofs.YtldlmkfigjicgaaGreatDoor
/- zset.Add, Neg. -/
namespace Go.Proofs.YtldlmkfigjicgaaGreatDoor
set_option linter.unusedVariables false
set_option linter.unusedSimpArgs false
open Go.ChangeShapes Go.WideShapes Go.ChangeAt Go.RowKit

theorem lens_set {M : List IR} (h : setI (its M) = 0) : ∀ x ∈ M, x.row.length ≤ 1048576 := lens_of (setI_zero.1 h).2.1
theorem len_set {M : List IR} (h : setI (its M) = 0) : M.length ≤ 400 := by have := (setI_zero.1 h).1; rwa [its_len] at this

set_option maxHeartbeats 2000000 in
set_option maxRecDepth 100000 in
theorem add_any (M1 M2 : List IR) (A1 A2 : Option Addr) (c1 c2 : Nat) (w : World) (hr1 : RowI w w.heap.size A1 M1) (hl1 : M1.length ≤ 9223372036854775807) (hr2 : RowI w w.heap.size A2 M2) (hl2 : M2.length ≤ 9223372036854775807) :
    Calls Tryz.prog 8 #[.slice A1 M1.length c1, .slice A2 M2.length c2] w (ItsErr (addX (its M1) (its M2)) (addE (its M1) (its M2)) w) := by
  have HK1 := hid (fun w1 (hb : Below w.heap.size w w1) => zcheck_any M1 A1 c1 w1 (hr1.step hb) hl1)
  have HK2 := hid (fun w1 (hb : Below w.heap.size w w1) => zcheck_any M2 A2 c2 w1 (hr2.step hb) hl2)
  have HR1 := hid hr1
  have HR2 := hid hr2
  clear hr1 hr2
  have HE := hid (show addE (its M1) (its M2) = if setI (its M1) ≠ 0 then setI (its M1) else if setI (its M2) ≠ 0 then setI (its M2) else doneE (sumL (its M1 ++ its M2)) from rfl)
  have HX := hid (show addX (its M1) (its M2) = if addE (its M1) (its M2) = 0 then sumL (its M1 ++ its M2) else [] from rfl)
  have HL1 : Hid (setI (its M1) = 0 → M1.length ≤ 400 ∧ ∀ x ∈ M1, x.row.length ≤ 1048576) := hid fun h => ⟨len_set h, lens_set h⟩
  have HL2 : Hid (setI (its M2) = 0 → M2.length ≤ 400 ∧ ∀ x ∈ M2, x.row.length ≤ 1048576) := hid fun h => ⟨len_set h, lens_set h⟩
  obtain ⟨E, hE⟩ : ∃ E, E = addE (its M1) (its M2) := ⟨_, rfl⟩
  rw [← hE] at HE HX ⊢
  clear hE
  obtain ⟨X, hX⟩ : ∃ X, X = addX (its M1) (its M2) := ⟨_, rfl⟩
  rw [← hX] at HX ⊢
  clear hX
  obtain ⟨E1, hE1⟩ : ∃ q, q = setI (its M1) := ⟨_, rfl⟩
  obtain ⟨E2, hE2⟩ : ∃ q, q = setI (its M2) := ⟨_, rfl⟩
  rw [← hE1] at HE HK1 HL1
  rw [← hE2] at HE HK2 HL2
  clear hE1 hE2
  go_enter Tryz.func8, Tryz.ntmps8
  go_wp2_with fail
  obtain ⟨W, hW⟩ : ∃ W : World, W = w.alloc (.cells #[.slice A1 M1.length c1, .slice A2 M2.length c2] 22) := ⟨_, rfl⟩
  have HXA := hid (show Blk W w.heap.size #[.slice A1 M1.length c1, .slice A2 M2.length c2] 22 by rw [hW]; exact Blk.new _ _ _)
  have HBW := hid (show Below w.heap.size w W by rw [hW]; exact alloc_below (Below.refl _ _) _)
  -- STOP-a
  rw [← hW]
  clear hW
  obtain ⟨cHXA, fHXA, sHXA, nHXA⟩ := HXA.out.all
  try simp only [cbox] at cHXA
  refine wp_loop_rounds 3 ?_
  rw [rounds_succ]
  by_cases q1 : E1 = 0
  rotate_left
  · have t1 : (E1 != 0) = true := by simpa using q1
    have HD : Hid (E = E1) := hid (by rw [HE.out, if_pos q1])
    have HQ := hid q1
    clear q1
    go_wp2_with (go_at_call 18; refine (HK1.out _ HBW.out).mono ?_; rintro e w1 ⟨rfl, hb1⟩)
    go_ret2
    exact itsErr_nil' (by rw [HX.out, HD.out, if_neg HQ.out]) HD.out (Below.step' HBW.out hb1)
  · subst q1
    go_wp2_with fail
    refine (HK1.out _ HBW.out).mono ?_
    rintro e w1 ⟨rfl, hb1⟩
    clear cHXA fHXA sHXA nHXA
    replace HXA := hid (HXA.out.step hb1)
    replace HBW := hid (Below.step' HBW.out hb1)
    clear hb1
    obtain ⟨cHXA, fHXA, sHXA, nHXA⟩ := HXA.out.all
    try simp only [cbox] at cHXA
    go_wp2_with fail
    rw [rounds_succ]
    by_cases q2 : E2 = 0
    rotate_left
    · have t1 : (E2 != 0) = true := by simpa using q2
      have HD : Hid (E = E2) := hid (by rw [HE.out, if_neg (by simp), if_pos q2])
      have HQ := hid q2
      clear q2
      go_wp2_with (go_at_call 18; refine (HK2.out _ HBW.out).mono ?_; rintro e w2 ⟨rfl, hb2⟩)
      go_ret2
      exact itsErr_nil' (by rw [HX.out, HD.out, if_neg HQ.out]) HD.out (Below.step' HBW.out hb2)
    · subst q2
      have HD : Hid (E = doneE (sumL (its M1 ++ its M2))) := hid (by rw [HE.out, if_neg (by simp), if_neg (by simp)])
      obtain ⟨l1, n1⟩ := HL1.out (by first | rfl | trivial)
      obtain ⟨l2, n2⟩ := HL2.out (by first | rfl | trivial)
      have HN1 := hid n1
      have HN2 := hid n2
      clear n1 n2 HL1 HL2
      go_wp2_with fail
      refine (HK2.out _ HBW.out).mono ?_
      rintro e w2 ⟨rfl, hb2⟩
      clear cHXA fHXA sHXA nHXA
      replace HBW := hid (Below.step' HBW.out hb2)
      clear hb2 HXA
      have HSM : Hid (∀ w3, Below w2.heap.size w2 w3 → ∀ A3, Row w3 w3.heap.size A3 [.slice A1 M1.length c1, .slice A2 M2.length c2] → Calls Tryz.prog 36 #[.slice A3 2 2] w3 (ItsPost (sumL (its M1 ++ its M2)) w3)) := hid (fun w3 hb A3 h => by
        have := sum_any [⟨M1, A1, c1⟩, ⟨M2, A2, c2⟩] A3 2 w3 (by simpa using h) (fun x hx => by
          simp only [List.mem_cons, List.not_mem_nil, or_false] at hx
          rcases hx with rfl | rfl
          · exact HR1.out.step (Below.step' HBW.out hb)
          · exact HR2.out.step (Below.step' HBW.out hb)) (by simp; omega) (by simp) (fun x hx => by
          simp only [lrs, List.flatMap_cons, List.flatMap_nil, List.append_nil, List.mem_append] at hx
          rcases hx with hx | hx
          · exact HN1.out x hx
          · exact HN2.out x hx)
        simpa using this)
      go_wp2_with fail
      rw [rounds_succ]
      go_wp2_with fail
      -- STOP-b
      refine (HSM.out _ (alloc_below (Below.refl _ _) _) _ (Row.new' _ _ _ rfl rfl (by simp))).mono ?_
      rintro e w3 ⟨A3, k3, M3, rfl, hits, hown, hnew, hb3⟩
      have hB3 : Below w2.heap.size w2 w3 := (by refine Below.step' ?_ hb3; (repeat' (first | (with_reducible exact Below.refl _ _) | (with_reducible assumption) | (with_reducible refine below_drewN ?_ _) | (with_reducible refine Below.drew ?_) | (with_reducible refine Below.alloc ?_ ?_ _) | (with_reducible refine Below.setCell ?_ ?_ _) | (refine Below.trans ?_ (Below.mono (by assumption) ?_)) | go_size)))
      have HIT := hid hits
      have HOW := hid (own_baseS hown (show w.heap.size ≤ _ by have := HBW.out.size; simp; omega))
      have HNW : Hid (RowsNew w3 w.heap.size (.slice A3 M3.length k3) M3) := hid (fun x hx => by
        obtain ⟨q1, q2, q3, q4⟩ := hnew x hx
        exact ⟨q1, newAt_le q2 (by have := HBW.out.size; simp; omega), q3, q4⟩)
      have HB2 := hid (Below.step' HBW.out hB3)
      have hlM : M3.length ≤ 9223372036854775807 := by
        have := sumL_len (its M1 ++ its M2)
        rw [← hits, its_len, List.length_append, its_len, its_len] at this
        omega
      have hdn := done_any M3 A3 k3 w3 (Row.of_ownS hown) hnew.rows hlM
      rw [hits, ← HD.out] at hdn
      have HDN := hid hdn
      clear hits hown hnew hb3 hB3 hdn hlM HSM
      go_wp2_with fail
      refine HDN.out.mono ?_
      rintro e w4 ⟨rfl, hb4⟩
      have HB4 := hid hb4
      clear hb4 HDN
      by_cases hz : E = 0
      · have HZ := hid hz
        rw [if_pos hz]
        clear hz
        go_wp2
        go_ret2
        exact ⟨A3, k3, M3, rfl, by rw [HIT.out, HX.out, if_pos HZ.out], own_laterS HOW.out HB4.out, HNW.out.step HB4.out, Below.step' HB2.out HB4.out⟩
      · have HZ := hid hz
        rw [if_neg hz]
        clear hz
        go_wp2
        go_ret2
        exact itsErr_nil' (by rw [HX.out, if_neg HZ.out]) rfl (Below.step' HB2.out HB4.out)

theorem keepG {w w' : World} {r : Option Nat} (hg : w.grownBy w' r) {b : Nat} (hb : b < w.heap.size) (hr : some b = r → False) (o : Nat) : w'.cell? ⟨b, o, none⟩ = w.cell? ⟨b, o, none⟩ :=
  World.cell?_of_block (w := w) (hg.block b hb hr)

end Go.Proofs.YtldlmkfigjicgaaGreatDoor
