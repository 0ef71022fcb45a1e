/- QyB, QyC -/
import Derived.Test.YtamlaeocojcgdaaDoorQueryBackCardS05
import Derived.Handy
import Derived.Deep.RegionHeld3
/- query.width. -/
namespace Go.Proofs.YtamlaeocojcgdaaDoor
set_option linter.unusedVariables false
set_option linter.unusedSimpArgs false
open Go.ChangeShapes Go.WideShapes Go.ChangeAt Go.RowKit

theorem getD_in {W : List Int} {j : Nat} (h : j < W.length) (hr : ∀ v ∈ W, 1 ≤ v ∧ v ≤ 8) : 1 ≤ W.getD j 0 ∧ W.getD j 0 ≤ 8 := by
  rw [List.getD_eq_getElem?_getD, List.getElem?_eq_getElem h]
  exact hr _ (List.getElem_mem h)
theorem stW_range {s : St} {W : List Int} (hr : ∀ v ∈ W, 1 ≤ v ∧ v ≤ 8) (h : stW s W ≠ 0) : 1 ≤ stW s W ∧ stW s W ≤ 8 := by
  have hv := stW_val h
  have ho := stW_ok h
  rw [hv] at h ⊢
  unfold wv at h ⊢
  rcases ho with ⟨k1, -⟩ | ⟨a0, a1, b0, b1, hk⟩
  · rw [if_pos k1]; omega
  · have hA := getD_in (W := W) (j := s.a.toNat) (by omega) hr
    have hB := getD_in (W := W) (j := s.b.toNat) (by omega) hr
    generalize W.getD s.a.toNat 0 = u at *
    generalize W.getD s.b.toNat 0 = v at *
    rcases hk with ⟨k, -⟩ | ⟨k, l, -⟩ | ⟨k, -, -, -, -, e⟩ | ⟨k, -⟩ | k | ⟨k, -⟩ | ⟨k, -⟩
    · rw [if_neg (by omega), if_neg (by omega), if_neg (by omega), if_neg (by omega)]; omega
    · rw [if_neg (by omega), if_pos k] at h ⊢; omega
    · rw [if_neg (by omega), if_neg (by omega), if_pos k]; omega
    · rw [if_neg (by omega), if_neg (by omega), if_neg (by omega), if_neg (by omega)]; omega
    · rw [if_neg (by omega), if_neg (by omega), if_neg (by omega), if_neg (by omega)]; omega
    · rw [if_neg (by omega), if_neg (by omega), if_neg (by omega), if_pos (by omega)]; omega
    · rw [if_neg (by omega), if_neg (by omega), if_neg (by omega), if_pos (by omega)]; omega

set_option maxHeartbeats 1000000 in
set_option maxRecDepth 100000 in
theorem width_k1 (sa sb sc so sv : Int) (sl : List Int) (sA : Option Addr) (sK : Nat) (W : List Int) (WA : Option Addr) (Wc : Nat) (w : World) (hl : Row w w.heap.size sA (icells' sl)) (hll : sl.length ≤ 9223372036854775807) (hW : Row w w.heap.size WA (icells' W)) (hW8 : W.length ≤ 8) (hr : ∀ v ∈ W, 1 ≤ v ∧ v ≤ 8) :
    Calls Tryd.prog 31 #[.agg #[.int .i64 1, .int .i64 sa, .int .i64 sb, .int .i64 sc, .int .i64 so, .int .i64 sv, .slice sA sl.length sK], .slice WA W.length Wc] w fun e w' => e = .returned (.int .i64 (stW ⟨1, sa, sb, sc, so, sv, sl⟩ W)) ∧ Below w.heap.size w w' := by
  obtain ⟨R, hR⟩ : ∃ R, R = stW ⟨1, sa, sb, sc, so, sv, sl⟩ W := ⟨_, rfl⟩
  rw [← hR]
  have HR := hid hR
  clear hR
  have HL := hid hl
  have HRW := hid hW
  clear hl hW
  have hwl : IntKind.i64.wrap ((W.length : Int) - 1) = (W.length : Int) - 1 := IntWalk.i64_in _ (by omega)
  cases htA : wiB sa 0 1
  · go_enter Tryd.func31, Tryd.ntmps31
    go_wp2_with (go_at_call 43; refine (qwithin_any _ _ _ _).mono ?_; rintro e w' ⟨rfl, rfl⟩)
    go_ret
    exact ⟨ret_int (by rw [HR.out]; simp [stW, tblB, badStep, twoB, htA]), by (repeat' (first | (with_reducible exact Below.refl _ _) | (with_reducible assumption) | (with_reducible refine below_drewN ?_ _) | (with_reducible refine Below.drew ?_) | (with_reducible refine Below.alloc ?_ ?_ _) | (with_reducible refine Below.setCell ?_ ?_ _) | (refine Below.trans ?_ (Below.mono (by assumption) ?_)) | go_size))⟩
  · cases htb : (sb == 0)
    · go_enter Tryd.func31, Tryd.ntmps31
      go_wp2_with (go_at_call 43; refine (qwithin_any _ _ _ _).mono ?_; rintro e w' ⟨rfl, rfl⟩)
      go_ret
      exact ⟨ret_int (by rw [HR.out]; simp [stW, tblB, badStep, twoB, htA, htb]), by (repeat' (first | (with_reducible exact Below.refl _ _) | (with_reducible assumption) | (with_reducible refine below_drewN ?_ _) | (with_reducible refine Below.drew ?_) | (with_reducible refine Below.alloc ?_ ?_ _) | (with_reducible refine Below.setCell ?_ ?_ _) | (refine Below.trans ?_ (Below.mono (by assumption) ?_)) | go_size))⟩
    · cases htc : (sc == 0)
      · go_enter Tryd.func31, Tryd.ntmps31
        go_wp2_with (go_at_call 43; refine (qwithin_any _ _ _ _).mono ?_; rintro e w' ⟨rfl, rfl⟩)
        go_ret
        exact ⟨ret_int (by rw [HR.out]; simp [stW, tblB, badStep, twoB, htA, htb, htc]), by (repeat' (first | (with_reducible exact Below.refl _ _) | (with_reducible assumption) | (with_reducible refine below_drewN ?_ _) | (with_reducible refine Below.drew ?_) | (with_reducible refine Below.alloc ?_ ?_ _) | (with_reducible refine Below.setCell ?_ ?_ _) | (refine Below.trans ?_ (Below.mono (by assumption) ?_)) | go_size))⟩
      · cases hto : (so == 0)
        · go_enter Tryd.func31, Tryd.ntmps31
          go_wp2_with (go_at_call 43; refine (qwithin_any _ _ _ _).mono ?_; rintro e w' ⟨rfl, rfl⟩)
          go_ret
          exact ⟨ret_int (by rw [HR.out]; simp [stW, tblB, badStep, twoB, htA, htb, htc, hto]), by (repeat' (first | (with_reducible exact Below.refl _ _) | (with_reducible assumption) | (with_reducible refine below_drewN ?_ _) | (with_reducible refine Below.drew ?_) | (with_reducible refine Below.alloc ?_ ?_ _) | (with_reducible refine Below.setCell ?_ ?_ _) | (refine Below.trans ?_ (Below.mono (by assumption) ?_)) | go_size))⟩
        · cases htv : (sv == 0)
          · go_enter Tryd.func31, Tryd.ntmps31
            go_wp2_with (go_at_call 43; refine (qwithin_any _ _ _ _).mono ?_; rintro e w' ⟨rfl, rfl⟩)
            go_ret
            exact ⟨ret_int (by rw [HR.out]; simp [stW, tblB, badStep, twoB, htA, htb, htc, hto, htv]), by (repeat' (first | (with_reducible exact Below.refl _ _) | (with_reducible assumption) | (with_reducible refine below_drewN ?_ _) | (with_reducible refine Below.drew ?_) | (with_reducible refine Below.alloc ?_ ?_ _) | (with_reducible refine Below.setCell ?_ ?_ _) | (refine Below.trans ?_ (Below.mono (by assumption) ?_)) | go_size))⟩
          · cases htl : (sl.length == 0)
            · have htl' : ((sl.length : Int) == 0) = false := beq_eq_false_iff_ne.2 (by have := beq_eq_false_iff_ne.1 htl; omega)
              go_enter Tryd.func31, Tryd.ntmps31
              go_wp2_with (go_at_call 43; refine (qwithin_any _ _ _ _).mono ?_; rintro e w' ⟨rfl, rfl⟩)
              go_ret
              exact ⟨ret_int (by rw [HR.out]; simp [stW, tblB, badStep, twoB, htA, htb, htc, hto, htv, htl]), by (repeat' (first | (with_reducible exact Below.refl _ _) | (with_reducible assumption) | (with_reducible refine below_drewN ?_ _) | (with_reducible refine Below.drew ?_) | (with_reducible refine Below.alloc ?_ ?_ _) | (with_reducible refine Below.setCell ?_ ?_ _) | (refine Below.trans ?_ (Below.mono (by assumption) ?_)) | go_size))⟩
            · have htl' : ((sl.length : Int) == 0) = true := beq_iff_eq.2 (by have := beq_iff_eq.1 htl; omega)
              go_enter Tryd.func31, Tryd.ntmps31
              go_wp2_with (go_at_call 43; refine (qwithin_any _ _ _ _).mono ?_; rintro e w' ⟨rfl, rfl⟩)
              go_ret
              exact ⟨ret_int (by rw [HR.out]; simp [stW, tblB, badStep, twoB, htA, htb, htc, hto, htv, htl]), by (repeat' (first | (with_reducible exact Below.refl _ _) | (with_reducible assumption) | (with_reducible refine below_drewN ?_ _) | (with_reducible refine Below.drew ?_) | (with_reducible refine Below.alloc ?_ ?_ _) | (with_reducible refine Below.setCell ?_ ?_ _) | (refine Below.trans ?_ (Below.mono (by assumption) ?_)) | go_size))⟩
set_option maxHeartbeats 1000000 in
set_option maxRecDepth 100000 in
theorem width_k3 (sa sb sc so sv : Int) (sl : List Int) (sA : Option Addr) (sK : Nat) (W : List Int) (WA : Option Addr) (Wc : Nat) (w : World) (hl : Row w w.heap.size sA (icells' sl)) (hll : sl.length ≤ 9223372036854775807) (hW : Row w w.heap.size WA (icells' W)) (hW8 : W.length ≤ 8) (hr : ∀ v ∈ W, 1 ≤ v ∧ v ≤ 8) :
    Calls Tryd.prog 31 #[.agg #[.int .i64 3, .int .i64 sa, .int .i64 sb, .int .i64 sc, .int .i64 so, .int .i64 sv, .slice sA sl.length sK], .slice WA W.length Wc] w fun e w' => e = .returned (.int .i64 (stW ⟨3, sa, sb, sc, so, sv, sl⟩ W)) ∧ Below w.heap.size w w' := by
  obtain ⟨R, hR⟩ : ∃ R, R = stW ⟨3, sa, sb, sc, so, sv, sl⟩ W := ⟨_, rfl⟩
  rw [← hR]
  have HR := hid hR
  clear hR
  have HL := hid hl
  have HRW := hid hW
  clear hl hW
  have hwl : IntKind.i64.wrap ((W.length : Int) - 1) = (W.length : Int) - 1 := IntWalk.i64_in _ (by omega)
  cases hA : wiB sa 0 ((W.length : Int) - 1)
  · go_enter Tryd.func31, Tryd.ntmps31
    go_wp2_with (go_at_call 43; refine (qwithin_any _ _ _ _).mono ?_; rintro e w' ⟨rfl, rfl⟩)
    go_ret
    exact ⟨ret_int (by rw [HR.out]; simp [stW, tblB, badStep, twoB, hA]), by (repeat' (first | (with_reducible exact Below.refl _ _) | (with_reducible assumption) | (with_reducible refine below_drewN ?_ _) | (with_reducible refine Below.drew ?_) | (with_reducible refine Below.alloc ?_ ?_ _) | (with_reducible refine Below.setCell ?_ ?_ _) | (refine Below.trans ?_ (Below.mono (by assumption) ?_)) | go_size))⟩
  · cases hn : (sb != 0)
    · have hn' : (sb == 0) = true := by rw [Bool.eq_iff_iff]; simpa using hn
      cases hp : decide (0 < sl.length)
      · have hp' : ((0 : Int) < (sl.length : Int)) = False := eq_false (by have := of_decide_eq_false hp; omega)
        go_enter Tryd.func31, Tryd.ntmps31
        go_wp2_with (go_at_call 43; refine (qwithin_any _ _ _ _).mono ?_; rintro e w' ⟨rfl, rfl⟩)
        go_ret
        exact ⟨ret_int (by rw [HR.out]; simp [stW, tblB, badStep, twoB, hA, hn, hp]), by (repeat' (first | (with_reducible exact Below.refl _ _) | (with_reducible assumption) | (with_reducible refine below_drewN ?_ _) | (with_reducible refine Below.drew ?_) | (with_reducible refine Below.alloc ?_ ?_ _) | (with_reducible refine Below.setCell ?_ ?_ _) | (refine Below.trans ?_ (Below.mono (by assumption) ?_)) | go_size))⟩
      · have hp' : ((0 : Int) < (sl.length : Int)) = True := eq_true (by have := of_decide_eq_true hp; omega)
        have hA2 := wiB_iff.1 hA
        obtain ⟨ja, rfl⟩ : ∃ ja : Nat, sa = (ja : Int) := ⟨sa.toNat, by omega⟩
        have hja : ja < W.length := by omega
        obtain ⟨bw, ow, rfl, hbw, va⟩ := HRW.out.int' hja
        obtain rfl : sb = 0 := by simpa using hn
        obtain ⟨jb, hjb0⟩ : ∃ jb : Nat, jb = 0 := ⟨0, rfl⟩
        have hjb : jb < W.length := by omega
        obtain ⟨bw', ow', e', -, vb⟩ := HRW.out.int' hjb
        injection e' with e'
        injection e' with q1 q2
        subst q1 q2
        subst hjb0
        simp only [Nat.add_zero] at vb
        have hu := hr W[ja] (List.getElem_mem hja)
        have hv := hr W[0] (List.getElem_mem hjb)
        have HE : Hid (R = ofW ⟨3, ja, 0, sc, so, sv, sl⟩ W[ja] W[0]) := hid (by
          rw [HR.out]
          have e1 : W.getD ja 0 = W[ja] := by rw [List.getD_eq_getElem?_getD, List.getElem?_eq_getElem hja]; rfl
          have e2 : W.getD 0 0 = W[0] := by rw [List.getD_eq_getElem?_getD, List.getElem?_eq_getElem hjb]; rfl
          have e3 : badStep ⟨3, ja, 0, sc, so, sv, sl⟩ ((W.length : Int) - 1) = false := by simp [badStep, twoB, hA, hn, hp]
          unfold stW
          simp only [e3, Int.toNat_natCast, e1]
          rw [if_neg (by omega), if_neg (by simp)]
          rw [show ((0 : Int)).toNat = 0 from rfl, e2])
        generalize W[ja] = u at *
        generalize W[0] = v at *
        have HOF := hid (fun w1 (hbb : Below w.heap.size w w1) => of_any' ⟨⟨3, ja, 0, sc, so, sv, sl⟩, sA, sK⟩ u v w1 (by omega) (by omega) (HL.out.step hbb) hll)
        simp only [SR.cells] at HOF
        rw [← HE.out] at HOF
        obtain ⟨W1, hW1⟩ : ∃ W1 : World, W1 = w.alloc (.cells #[.int .i64 3, .int .i64 (ja : Int), .int .i64 0, .int .i64 sc, .int .i64 so, .int .i64 sv, .slice sA sl.length sK] 40) := ⟨_, rfl⟩
        have HX := hid (show Blk W1 w.heap.size #[.int .i64 3, .int .i64 (ja : Int), .int .i64 0, .int .i64 sc, .int .i64 so, .int .i64 sv, .slice sA sl.length sK] 40 by rw [hW1]; exact Blk.new _ _ _)
        have HB1 := hid (show Below w.heap.size w W1 by rw [hW1]; (repeat' (first | (with_reducible exact Below.refl _ _) | (with_reducible assumption) | (with_reducible refine below_drewN ?_ _) | (with_reducible refine Below.drew ?_) | (with_reducible refine Below.alloc ?_ ?_ _) | (with_reducible refine Below.setCell ?_ ?_ _) | (refine Below.trans ?_ (Below.mono (by assumption) ?_)) | go_size)))
        have va' := ((bcell HB1.out).1 bw _ hbw).trans va
        have vb' := ((bcell HB1.out).1 bw _ hbw).trans vb
        have hbw' : bw < W1.heap.size := Nat.lt_of_lt_of_le hbw HB1.out.size
        have hjal : (ja : Int) < (W.length : Int) := by omega
        have h0l : (0 : Int) < (W.length : Int) := by omega
        clear va vb hbw HR HE hA2
        go_enter Tryd.func31, Tryd.ntmps31
        go_wp2_with (go_at_call 43; refine (qwithin_any _ _ _ _).mono ?_; rintro e w' ⟨rfl, rfl⟩)
        rw [← hW1]
        clear hW1
        obtain ⟨cHX, fHX, sHX, nHX⟩ := HX.out.all
        try simp only [cbox] at cHX
        refine region_ext (by kernel_rfl) (by kernel_rfl) (fun hext => ?_)
        repeat (any_goals ((with_reducible refine wpQuiet_step (fun K hK => ?_)); go_simp; first | (with_reducible refine hK _ ?_; clear hK K) | ((with_reducible apply Exists.intro); (with_reducible refine ⟨fun _ => ?_, hK _ ?_⟩); ((go_at_call 44; (with_reducible refine ext_call _ ?_ (HOF.out _ (Below.step' HB1.out (Ext.below _)))); simp)); clear hK K) | ((with_reducible refine (if_neg ?_).mpr (hK _ ?_)); (decide); clear hK K) | (split <;> (with_reducible refine hK _ ?_; clear hK K))))
        all_goals ((with_reducible refine wpQuiet_nil ?_); clear hext; intro w1 hx1; have hb1 := ext_below hx1; clear hx1)
        have HB2 := hid (Below.step' HB1.out hb1)
        clear hb1
        go_wp2
        go_ret
        exact ⟨rfl, HB2.out⟩
    · have hn' : (sb == 0) = false := by rw [Bool.eq_false_iff]; simpa using hn
      go_enter Tryd.func31, Tryd.ntmps31
      go_wp2_with (go_at_call 43; refine (qwithin_any _ _ _ _).mono ?_; rintro e w' ⟨rfl, rfl⟩)
      go_ret
      exact ⟨ret_int (by rw [HR.out]; simp [stW, tblB, badStep, twoB, hA, hn]), by (repeat' (first | (with_reducible exact Below.refl _ _) | (with_reducible assumption) | (with_reducible refine below_drewN ?_ _) | (with_reducible refine Below.drew ?_) | (with_reducible refine Below.alloc ?_ ?_ _) | (with_reducible refine Below.setCell ?_ ?_ _) | (refine Below.trans ?_ (Below.mono (by assumption) ?_)) | go_size))⟩
set_option maxHeartbeats 1000000 in
set_option maxRecDepth 100000 in
theorem width_k4 (sa sb sc so sv : Int) (sl : List Int) (sA : Option Addr) (sK : Nat) (W : List Int) (WA : Option Addr) (Wc : Nat) (w : World) (hl : Row w w.heap.size sA (icells' sl)) (hll : sl.length ≤ 9223372036854775807) (hW : Row w w.heap.size WA (icells' W)) (hW8 : W.length ≤ 8) (hr : ∀ v ∈ W, 1 ≤ v ∧ v ≤ 8) :
    Calls Tryd.prog 31 #[.agg #[.int .i64 4, .int .i64 sa, .int .i64 sb, .int .i64 sc, .int .i64 so, .int .i64 sv, .slice sA sl.length sK], .slice WA W.length Wc] w fun e w' => e = .returned (.int .i64 (stW ⟨4, sa, sb, sc, so, sv, sl⟩ W)) ∧ Below w.heap.size w w' := by
  obtain ⟨R, hR⟩ : ∃ R, R = stW ⟨4, sa, sb, sc, so, sv, sl⟩ W := ⟨_, rfl⟩
  rw [← hR]
  have HR := hid hR
  clear hR
  have HL := hid hl
  have HRW := hid hW
  clear hl hW
  have hwl : IntKind.i64.wrap ((W.length : Int) - 1) = (W.length : Int) - 1 := IntWalk.i64_in _ (by omega)
  cases hA : wiB sa 0 ((W.length : Int) - 1)
  · go_enter Tryd.func31, Tryd.ntmps31
    go_wp2_with (go_at_call 43; refine (qwithin_any _ _ _ _).mono ?_; rintro e w' ⟨rfl, rfl⟩)
    go_ret
    exact ⟨ret_int (by rw [HR.out]; simp [stW, tblB, badStep, twoB, hA]), by (repeat' (first | (with_reducible exact Below.refl _ _) | (with_reducible assumption) | (with_reducible refine below_drewN ?_ _) | (with_reducible refine Below.drew ?_) | (with_reducible refine Below.alloc ?_ ?_ _) | (with_reducible refine Below.setCell ?_ ?_ _) | (refine Below.trans ?_ (Below.mono (by assumption) ?_)) | go_size))⟩
  · cases hB : wiB sb 0 ((W.length : Int) - 1)
    · go_enter Tryd.func31, Tryd.ntmps31
      go_wp2_with (go_at_call 43; refine (qwithin_any _ _ _ _).mono ?_; rintro e w' ⟨rfl, rfl⟩)
      go_ret
      exact ⟨ret_int (by rw [HR.out]; simp [stW, tblB, badStep, twoB, hA, hB]), by (repeat' (first | (with_reducible exact Below.refl _ _) | (with_reducible assumption) | (with_reducible refine below_drewN ?_ _) | (with_reducible refine Below.drew ?_) | (with_reducible refine Below.alloc ?_ ?_ _) | (with_reducible refine Below.setCell ?_ ?_ _) | (refine Below.trans ?_ (Below.mono (by assumption) ?_)) | go_size))⟩
    · cases hp : decide (0 < sl.length)
      · have hp' : ((0 : Int) < (sl.length : Int)) = False := eq_false (by have := of_decide_eq_false hp; omega)
        have hA2 := wiB_iff.1 hA
        obtain ⟨ja, rfl⟩ : ∃ ja : Nat, sa = (ja : Int) := ⟨sa.toNat, by omega⟩
        have hja : ja < W.length := by omega
        obtain ⟨bw, ow, rfl, hbw, va⟩ := HRW.out.int' hja
        have hB2 := wiB_iff.1 hB
        obtain ⟨jb, rfl⟩ : ∃ jb : Nat, sb = (jb : Int) := ⟨sb.toNat, by omega⟩
        have hjb : jb < W.length := by omega
        obtain ⟨bw', ow', e', -, vb⟩ := HRW.out.int' hjb
        injection e' with e'
        injection e' with q1 q2
        subst q1 q2
        have hu := hr W[ja] (List.getElem_mem hja)
        have hv := hr W[jb] (List.getElem_mem hjb)
        have HE : Hid (R = ofW ⟨4, ja, (jb : Int), sc, so, sv, sl⟩ W[ja] W[jb]) := hid (by
          rw [HR.out]
          have e1 : W.getD ja 0 = W[ja] := by rw [List.getD_eq_getElem?_getD, List.getElem?_eq_getElem hja]; rfl
          have e2 : W.getD jb 0 = W[jb] := by rw [List.getD_eq_getElem?_getD, List.getElem?_eq_getElem hjb]; rfl
          have e3 : badStep ⟨4, ja, (jb : Int), sc, so, sv, sl⟩ ((W.length : Int) - 1) = false := by simp [badStep, twoB, hA, hB, hp]
          unfold stW
          simp only [e3, Int.toNat_natCast, e1]
          rw [if_neg (by omega), if_neg (by simp)]
          rw [e2])
        generalize W[ja] = u at *
        generalize W[jb] = v at *
        have HOF := hid (fun w1 (hbb : Below w.heap.size w w1) => of_any' ⟨⟨4, ja, (jb : Int), sc, so, sv, sl⟩, sA, sK⟩ u v w1 (by omega) (by omega) (HL.out.step hbb) hll)
        simp only [SR.cells] at HOF
        rw [← HE.out] at HOF
        obtain ⟨W1, hW1⟩ : ∃ W1 : World, W1 = w.alloc (.cells #[.int .i64 4, .int .i64 (ja : Int), .int .i64 (jb : Int), .int .i64 sc, .int .i64 so, .int .i64 sv, .slice sA sl.length sK] 40) := ⟨_, rfl⟩
        have HX := hid (show Blk W1 w.heap.size #[.int .i64 4, .int .i64 (ja : Int), .int .i64 (jb : Int), .int .i64 sc, .int .i64 so, .int .i64 sv, .slice sA sl.length sK] 40 by rw [hW1]; exact Blk.new _ _ _)
        have HB1 := hid (show Below w.heap.size w W1 by rw [hW1]; (repeat' (first | (with_reducible exact Below.refl _ _) | (with_reducible assumption) | (with_reducible refine below_drewN ?_ _) | (with_reducible refine Below.drew ?_) | (with_reducible refine Below.alloc ?_ ?_ _) | (with_reducible refine Below.setCell ?_ ?_ _) | (refine Below.trans ?_ (Below.mono (by assumption) ?_)) | go_size)))
        have va' := ((bcell HB1.out).1 bw _ hbw).trans va
        have vb' := ((bcell HB1.out).1 bw _ hbw).trans vb
        have hbw' : bw < W1.heap.size := Nat.lt_of_lt_of_le hbw HB1.out.size
        have hjal : (ja : Int) < (W.length : Int) := by omega
        have hjbl : (jb : Int) < (W.length : Int) := by omega
        have h0l : (0 : Int) < (W.length : Int) := by omega
        clear va vb hbw HR HE hA2 hB2
        go_enter Tryd.func31, Tryd.ntmps31
        go_wp2_with (go_at_call 43; refine (qwithin_any _ _ _ _).mono ?_; rintro e w' ⟨rfl, rfl⟩)
        rw [← hW1]
        clear hW1
        obtain ⟨cHX, fHX, sHX, nHX⟩ := HX.out.all
        try simp only [cbox] at cHX
        refine region_ext (by kernel_rfl) (by kernel_rfl) (fun hext => ?_)
        repeat (any_goals ((with_reducible refine wpQuiet_step (fun K hK => ?_)); go_simp; first | (with_reducible refine hK _ ?_; clear hK K) | ((with_reducible apply Exists.intro); (with_reducible refine ⟨fun _ => ?_, hK _ ?_⟩); ((go_at_call 44; (with_reducible refine ext_call _ ?_ (HOF.out _ (Below.step' HB1.out (Ext.below _)))); simp)); clear hK K) | ((with_reducible refine (if_neg ?_).mpr (hK _ ?_)); (decide); clear hK K) | (split <;> (with_reducible refine hK _ ?_; clear hK K))))
        all_goals ((with_reducible refine wpQuiet_nil ?_); clear hext; intro w1 hx1; have hb1 := ext_below hx1; clear hx1)
        have HB2 := hid (Below.step' HB1.out hb1)
        clear hb1
        go_wp2
        go_ret
        exact ⟨rfl, HB2.out⟩
      · have hp' : ((0 : Int) < (sl.length : Int)) = True := eq_true (by have := of_decide_eq_true hp; omega)
        go_enter Tryd.func31, Tryd.ntmps31
        go_wp2_with (go_at_call 43; refine (qwithin_any _ _ _ _).mono ?_; rintro e w' ⟨rfl, rfl⟩)
        go_ret
        exact ⟨ret_int (by rw [HR.out]; simp [stW, tblB, badStep, twoB, hA, hB, hp]), by (repeat' (first | (with_reducible exact Below.refl _ _) | (with_reducible assumption) | (with_reducible refine below_drewN ?_ _) | (with_reducible refine Below.drew ?_) | (with_reducible refine Below.alloc ?_ ?_ _) | (with_reducible refine Below.setCell ?_ ?_ _) | (refine Below.trans ?_ (Below.mono (by assumption) ?_)) | go_size))⟩
set_option maxHeartbeats 1000000 in
set_option maxRecDepth 100000 in
theorem width_k5 (sa sb sc so sv : Int) (sl : List Int) (sA : Option Addr) (sK : Nat) (W : List Int) (WA : Option Addr) (Wc : Nat) (w : World) (hl : Row w w.heap.size sA (icells' sl)) (hll : sl.length ≤ 9223372036854775807) (hW : Row w w.heap.size WA (icells' W)) (hW8 : W.length ≤ 8) (hr : ∀ v ∈ W, 1 ≤ v ∧ v ≤ 8) :
    Calls Tryd.prog 31 #[.agg #[.int .i64 5, .int .i64 sa, .int .i64 sb, .int .i64 sc, .int .i64 so, .int .i64 sv, .slice sA sl.length sK], .slice WA W.length Wc] w fun e w' => e = .returned (.int .i64 (stW ⟨5, sa, sb, sc, so, sv, sl⟩ W)) ∧ Below w.heap.size w w' := by
  obtain ⟨R, hR⟩ : ∃ R, R = stW ⟨5, sa, sb, sc, so, sv, sl⟩ W := ⟨_, rfl⟩
  rw [← hR]
  have HR := hid hR
  clear hR
  have HL := hid hl
  have HRW := hid hW
  clear hl hW
  have hwl : IntKind.i64.wrap ((W.length : Int) - 1) = (W.length : Int) - 1 := IntWalk.i64_in _ (by omega)
  cases hA : wiB sa 0 ((W.length : Int) - 1)
  · go_enter Tryd.func31, Tryd.ntmps31
    go_wp2_with (go_at_call 43; refine (qwithin_any _ _ _ _).mono ?_; rintro e w' ⟨rfl, rfl⟩)
    go_ret
    exact ⟨ret_int (by rw [HR.out]; simp [stW, tblB, badStep, twoB, hA]), by (repeat' (first | (with_reducible exact Below.refl _ _) | (with_reducible assumption) | (with_reducible refine below_drewN ?_ _) | (with_reducible refine Below.drew ?_) | (with_reducible refine Below.alloc ?_ ?_ _) | (with_reducible refine Below.setCell ?_ ?_ _) | (refine Below.trans ?_ (Below.mono (by assumption) ?_)) | go_size))⟩
  · cases hB : wiB sb 0 ((W.length : Int) - 1)
    · go_enter Tryd.func31, Tryd.ntmps31
      go_wp2_with (go_at_call 43; refine (qwithin_any _ _ _ _).mono ?_; rintro e w' ⟨rfl, rfl⟩)
      go_ret
      exact ⟨ret_int (by rw [HR.out]; simp [stW, tblB, badStep, twoB, hA, hB]), by (repeat' (first | (with_reducible exact Below.refl _ _) | (with_reducible assumption) | (with_reducible refine below_drewN ?_ _) | (with_reducible refine Below.drew ?_) | (with_reducible refine Below.alloc ?_ ?_ _) | (with_reducible refine Below.setCell ?_ ?_ _) | (refine Below.trans ?_ (Below.mono (by assumption) ?_)) | go_size))⟩
    · cases hp : decide (0 < sl.length)
      · have hp' : ((0 : Int) < (sl.length : Int)) = False := eq_false (by have := of_decide_eq_false hp; omega)
        have hA2 := wiB_iff.1 hA
        obtain ⟨ja, rfl⟩ : ∃ ja : Nat, sa = (ja : Int) := ⟨sa.toNat, by omega⟩
        have hja : ja < W.length := by omega
        obtain ⟨bw, ow, rfl, hbw, va⟩ := HRW.out.int' hja
        have hB2 := wiB_iff.1 hB
        obtain ⟨jb, rfl⟩ : ∃ jb : Nat, sb = (jb : Int) := ⟨sb.toNat, by omega⟩
        have hjb : jb < W.length := by omega
        obtain ⟨bw', ow', e', -, vb⟩ := HRW.out.int' hjb
        injection e' with e'
        injection e' with q1 q2
        subst q1 q2
        have hu := hr W[ja] (List.getElem_mem hja)
        have hv := hr W[jb] (List.getElem_mem hjb)
        have HE : Hid (R = ofW ⟨5, ja, (jb : Int), sc, so, sv, sl⟩ W[ja] W[jb]) := hid (by
          rw [HR.out]
          have e1 : W.getD ja 0 = W[ja] := by rw [List.getD_eq_getElem?_getD, List.getElem?_eq_getElem hja]; rfl
          have e2 : W.getD jb 0 = W[jb] := by rw [List.getD_eq_getElem?_getD, List.getElem?_eq_getElem hjb]; rfl
          have e3 : badStep ⟨5, ja, (jb : Int), sc, so, sv, sl⟩ ((W.length : Int) - 1) = false := by simp [badStep, twoB, hA, hB, hp]
          unfold stW
          simp only [e3, Int.toNat_natCast, e1]
          rw [if_neg (by omega), if_neg (by simp)]
          rw [e2])
        generalize W[ja] = u at *
        generalize W[jb] = v at *
        have HOF := hid (fun w1 (hbb : Below w.heap.size w w1) => of_any' ⟨⟨5, ja, (jb : Int), sc, so, sv, sl⟩, sA, sK⟩ u v w1 (by omega) (by omega) (HL.out.step hbb) hll)
        simp only [SR.cells] at HOF
        rw [← HE.out] at HOF
        obtain ⟨W1, hW1⟩ : ∃ W1 : World, W1 = w.alloc (.cells #[.int .i64 5, .int .i64 (ja : Int), .int .i64 (jb : Int), .int .i64 sc, .int .i64 so, .int .i64 sv, .slice sA sl.length sK] 40) := ⟨_, rfl⟩
        have HX := hid (show Blk W1 w.heap.size #[.int .i64 5, .int .i64 (ja : Int), .int .i64 (jb : Int), .int .i64 sc, .int .i64 so, .int .i64 sv, .slice sA sl.length sK] 40 by rw [hW1]; exact Blk.new _ _ _)
        have HB1 := hid (show Below w.heap.size w W1 by rw [hW1]; (repeat' (first | (with_reducible exact Below.refl _ _) | (with_reducible assumption) | (with_reducible refine below_drewN ?_ _) | (with_reducible refine Below.drew ?_) | (with_reducible refine Below.alloc ?_ ?_ _) | (with_reducible refine Below.setCell ?_ ?_ _) | (refine Below.trans ?_ (Below.mono (by assumption) ?_)) | go_size)))
        have va' := ((bcell HB1.out).1 bw _ hbw).trans va
        have vb' := ((bcell HB1.out).1 bw _ hbw).trans vb
        have hbw' : bw < W1.heap.size := Nat.lt_of_lt_of_le hbw HB1.out.size
        have hjal : (ja : Int) < (W.length : Int) := by omega
        have hjbl : (jb : Int) < (W.length : Int) := by omega
        have h0l : (0 : Int) < (W.length : Int) := by omega
        clear va vb hbw HR HE hA2 hB2
        go_enter Tryd.func31, Tryd.ntmps31
        go_wp2_with (go_at_call 43; refine (qwithin_any _ _ _ _).mono ?_; rintro e w' ⟨rfl, rfl⟩)
        rw [← hW1]
        clear hW1
        obtain ⟨cHX, fHX, sHX, nHX⟩ := HX.out.all
        try simp only [cbox] at cHX
        refine region_ext (by kernel_rfl) (by kernel_rfl) (fun hext => ?_)
        repeat (any_goals ((with_reducible refine wpQuiet_step (fun K hK => ?_)); go_simp; first | (with_reducible refine hK _ ?_; clear hK K) | ((with_reducible apply Exists.intro); (with_reducible refine ⟨fun _ => ?_, hK _ ?_⟩); ((go_at_call 44; (with_reducible refine ext_call _ ?_ (HOF.out _ (Below.step' HB1.out (Ext.below _)))); simp)); clear hK K) | ((with_reducible refine (if_neg ?_).mpr (hK _ ?_)); (decide); clear hK K) | (split <;> (with_reducible refine hK _ ?_; clear hK K))))
        all_goals ((with_reducible refine wpQuiet_nil ?_); clear hext; intro w1 hx1; have hb1 := ext_below hx1; clear hx1)
        have HB2 := hid (Below.step' HB1.out hb1)
        clear hb1
        go_wp2
        go_ret
        exact ⟨rfl, HB2.out⟩
      · have hp' : ((0 : Int) < (sl.length : Int)) = True := eq_true (by have := of_decide_eq_true hp; omega)
        go_enter Tryd.func31, Tryd.ntmps31
        go_wp2_with (go_at_call 43; refine (qwithin_any _ _ _ _).mono ?_; rintro e w' ⟨rfl, rfl⟩)
        go_ret
        exact ⟨ret_int (by rw [HR.out]; simp [stW, tblB, badStep, twoB, hA, hB, hp]), by (repeat' (first | (with_reducible exact Below.refl _ _) | (with_reducible assumption) | (with_reducible refine below_drewN ?_ _) | (with_reducible refine Below.drew ?_) | (with_reducible refine Below.alloc ?_ ?_ _) | (with_reducible refine Below.setCell ?_ ?_ _) | (refine Below.trans ?_ (Below.mono (by assumption) ?_)) | go_size))⟩
set_option maxHeartbeats 1000000 in
set_option maxRecDepth 100000 in
theorem width_k6 (sa sb sc so sv : Int) (sl : List Int) (sA : Option Addr) (sK : Nat) (W : List Int) (WA : Option Addr) (Wc : Nat) (w : World) (hl : Row w w.heap.size sA (icells' sl)) (hll : sl.length ≤ 9223372036854775807) (hW : Row w w.heap.size WA (icells' W)) (hW8 : W.length ≤ 8) (hr : ∀ v ∈ W, 1 ≤ v ∧ v ≤ 8) :
    Calls Tryd.prog 31 #[.agg #[.int .i64 6, .int .i64 sa, .int .i64 sb, .int .i64 sc, .int .i64 so, .int .i64 sv, .slice sA sl.length sK], .slice WA W.length Wc] w fun e w' => e = .returned (.int .i64 (stW ⟨6, sa, sb, sc, so, sv, sl⟩ W)) ∧ Below w.heap.size w w' := by
  obtain ⟨R, hR⟩ : ∃ R, R = stW ⟨6, sa, sb, sc, so, sv, sl⟩ W := ⟨_, rfl⟩
  rw [← hR]
  have HR := hid hR
  clear hR
  have HL := hid hl
  have HRW := hid hW
  clear hl hW
  have hwl : IntKind.i64.wrap ((W.length : Int) - 1) = (W.length : Int) - 1 := IntWalk.i64_in _ (by omega)
  cases hA : wiB sa 0 ((W.length : Int) - 1)
  · go_enter Tryd.func31, Tryd.ntmps31
    go_wp2_with (go_at_call 43; refine (qwithin_any _ _ _ _).mono ?_; rintro e w' ⟨rfl, rfl⟩)
    go_ret
    exact ⟨ret_int (by rw [HR.out]; simp [stW, tblB, badStep, twoB, hA]), by (repeat' (first | (with_reducible exact Below.refl _ _) | (with_reducible assumption) | (with_reducible refine below_drewN ?_ _) | (with_reducible refine Below.drew ?_) | (with_reducible refine Below.alloc ?_ ?_ _) | (with_reducible refine Below.setCell ?_ ?_ _) | (refine Below.trans ?_ (Below.mono (by assumption) ?_)) | go_size))⟩
  · cases hB : wiB sb 0 ((W.length : Int) - 1)
    · go_enter Tryd.func31, Tryd.ntmps31
      go_wp2_with (go_at_call 43; refine (qwithin_any _ _ _ _).mono ?_; rintro e w' ⟨rfl, rfl⟩)
      go_ret
      exact ⟨ret_int (by rw [HR.out]; simp [stW, tblB, badStep, twoB, hA, hB]), by (repeat' (first | (with_reducible exact Below.refl _ _) | (with_reducible assumption) | (with_reducible refine below_drewN ?_ _) | (with_reducible refine Below.drew ?_) | (with_reducible refine Below.alloc ?_ ?_ _) | (with_reducible refine Below.setCell ?_ ?_ _) | (refine Below.trans ?_ (Below.mono (by assumption) ?_)) | go_size))⟩
    · cases hp : decide (0 < sl.length)
      · have hp' : ((0 : Int) < (sl.length : Int)) = False := eq_false (by have := of_decide_eq_false hp; omega)
        have hA2 := wiB_iff.1 hA
        obtain ⟨ja, rfl⟩ : ∃ ja : Nat, sa = (ja : Int) := ⟨sa.toNat, by omega⟩
        have hja : ja < W.length := by omega
        obtain ⟨bw, ow, rfl, hbw, va⟩ := HRW.out.int' hja
        have hB2 := wiB_iff.1 hB
        obtain ⟨jb, rfl⟩ : ∃ jb : Nat, sb = (jb : Int) := ⟨sb.toNat, by omega⟩
        have hjb : jb < W.length := by omega
        obtain ⟨bw', ow', e', -, vb⟩ := HRW.out.int' hjb
        injection e' with e'
        injection e' with q1 q2
        subst q1 q2
        have hu := hr W[ja] (List.getElem_mem hja)
        have hv := hr W[jb] (List.getElem_mem hjb)
        have HE : Hid (R = ofW ⟨6, ja, (jb : Int), sc, so, sv, sl⟩ W[ja] W[jb]) := hid (by
          rw [HR.out]
          have e1 : W.getD ja 0 = W[ja] := by rw [List.getD_eq_getElem?_getD, List.getElem?_eq_getElem hja]; rfl
          have e2 : W.getD jb 0 = W[jb] := by rw [List.getD_eq_getElem?_getD, List.getElem?_eq_getElem hjb]; rfl
          have e3 : badStep ⟨6, ja, (jb : Int), sc, so, sv, sl⟩ ((W.length : Int) - 1) = false := by simp [badStep, twoB, hA, hB, hp]
          unfold stW
          simp only [e3, Int.toNat_natCast, e1]
          rw [if_neg (by omega), if_neg (by simp)]
          rw [e2])
        generalize W[ja] = u at *
        generalize W[jb] = v at *
        have HOF := hid (fun w1 (hbb : Below w.heap.size w w1) => of_any' ⟨⟨6, ja, (jb : Int), sc, so, sv, sl⟩, sA, sK⟩ u v w1 (by omega) (by omega) (HL.out.step hbb) hll)
        simp only [SR.cells] at HOF
        rw [← HE.out] at HOF
        obtain ⟨W1, hW1⟩ : ∃ W1 : World, W1 = w.alloc (.cells #[.int .i64 6, .int .i64 (ja : Int), .int .i64 (jb : Int), .int .i64 sc, .int .i64 so, .int .i64 sv, .slice sA sl.length sK] 40) := ⟨_, rfl⟩
        have HX := hid (show Blk W1 w.heap.size #[.int .i64 6, .int .i64 (ja : Int), .int .i64 (jb : Int), .int .i64 sc, .int .i64 so, .int .i64 sv, .slice sA sl.length sK] 40 by rw [hW1]; exact Blk.new _ _ _)
        have HB1 := hid (show Below w.heap.size w W1 by rw [hW1]; (repeat' (first | (with_reducible exact Below.refl _ _) | (with_reducible assumption) | (with_reducible refine below_drewN ?_ _) | (with_reducible refine Below.drew ?_) | (with_reducible refine Below.alloc ?_ ?_ _) | (with_reducible refine Below.setCell ?_ ?_ _) | (refine Below.trans ?_ (Below.mono (by assumption) ?_)) | go_size)))
        have va' := ((bcell HB1.out).1 bw _ hbw).trans va
        have vb' := ((bcell HB1.out).1 bw _ hbw).trans vb
        have hbw' : bw < W1.heap.size := Nat.lt_of_lt_of_le hbw HB1.out.size
        have hjal : (ja : Int) < (W.length : Int) := by omega
        have hjbl : (jb : Int) < (W.length : Int) := by omega
        have h0l : (0 : Int) < (W.length : Int) := by omega
        clear va vb hbw HR HE hA2 hB2
        go_enter Tryd.func31, Tryd.ntmps31
        go_wp2_with (go_at_call 43; refine (qwithin_any _ _ _ _).mono ?_; rintro e w' ⟨rfl, rfl⟩)
        rw [← hW1]
        clear hW1
        obtain ⟨cHX, fHX, sHX, nHX⟩ := HX.out.all
        try simp only [cbox] at cHX
        refine region_ext (by kernel_rfl) (by kernel_rfl) (fun hext => ?_)
        repeat (any_goals ((with_reducible refine wpQuiet_step (fun K hK => ?_)); go_simp; first | (with_reducible refine hK _ ?_; clear hK K) | ((with_reducible apply Exists.intro); (with_reducible refine ⟨fun _ => ?_, hK _ ?_⟩); ((go_at_call 44; (with_reducible refine ext_call _ ?_ (HOF.out _ (Below.step' HB1.out (Ext.below _)))); simp)); clear hK K) | ((with_reducible refine (if_neg ?_).mpr (hK _ ?_)); (decide); clear hK K) | (split <;> (with_reducible refine hK _ ?_; clear hK K))))
        all_goals ((with_reducible refine wpQuiet_nil ?_); clear hext; intro w1 hx1; have hb1 := ext_below hx1; clear hx1)
        have HB2 := hid (Below.step' HB1.out hb1)
        clear hb1
        go_wp2
        go_ret
        exact ⟨rfl, HB2.out⟩
      · have hp' : ((0 : Int) < (sl.length : Int)) = True := eq_true (by have := of_decide_eq_true hp; omega)
        go_enter Tryd.func31, Tryd.ntmps31
        go_wp2_with (go_at_call 43; refine (qwithin_any _ _ _ _).mono ?_; rintro e w' ⟨rfl, rfl⟩)
        go_ret
        exact ⟨ret_int (by rw [HR.out]; simp [stW, tblB, badStep, twoB, hA, hB, hp]), by (repeat' (first | (with_reducible exact Below.refl _ _) | (with_reducible assumption) | (with_reducible refine below_drewN ?_ _) | (with_reducible refine Below.drew ?_) | (with_reducible refine Below.alloc ?_ ?_ _) | (with_reducible refine Below.setCell ?_ ?_ _) | (refine Below.trans ?_ (Below.mono (by assumption) ?_)) | go_size))⟩
set_option maxHeartbeats 1000000 in
set_option maxRecDepth 100000 in
theorem width_k0 (sk sa sb sc so sv : Int) (sl : List Int) (sA : Option Addr) (sK : Nat) (W : List Int) (WA : Option Addr) (Wc : Nat) (w : World) (hl : Row w w.heap.size sA (icells' sl)) (hll : sl.length ≤ 9223372036854775807) (hW : Row w w.heap.size WA (icells' W)) (hW8 : W.length ≤ 8) (hr : ∀ v ∈ W, 1 ≤ v ∧ v ≤ 8) (hk : sk ≠ 1 ∧ sk ≠ 3 ∧ sk ≠ 4 ∧ sk ≠ 5 ∧ sk ≠ 6) :
    Calls Tryd.prog 31 #[.agg #[.int .i64 sk, .int .i64 sa, .int .i64 sb, .int .i64 sc, .int .i64 so, .int .i64 sv, .slice sA sl.length sK], .slice WA W.length Wc] w fun e w' => e = .returned (.int .i64 (stW ⟨sk, sa, sb, sc, so, sv, sl⟩ W)) ∧ Below w.heap.size w w' := by
  obtain ⟨R, hR⟩ : ∃ R, R = stW ⟨sk, sa, sb, sc, so, sv, sl⟩ W := ⟨_, rfl⟩
  rw [← hR]
  have HR := hid hR
  clear hR
  have HL := hid hl
  have HRW := hid hW
  clear hl hW
  have hwl : IntKind.i64.wrap ((W.length : Int) - 1) = (W.length : Int) - 1 := IntWalk.i64_in _ (by omega)
  obtain ⟨k1, k3, k4, k5, k6⟩ := hk
  have e1 : (sk == 1) = false := by simpa using k1
  have e3 : (sk == 3) = false := by simpa using k3
  have e4 : (sk == 4) = false := by simpa using k4
  have e5 : (sk == 5) = false := by simpa using k5
  have e6 : (sk == 6) = false := by simpa using k6
  cases hA : wiB sa 0 ((W.length : Int) - 1)
  · go_enter Tryd.func31, Tryd.ntmps31
    go_wp2_with (go_at_call 43; refine (qwithin_any _ _ _ _).mono ?_; rintro e w' ⟨rfl, rfl⟩)
    go_ret
    exact ⟨ret_int (by rw [HR.out]; simp [stW, tblB, badStep, twoB, hA, k1, k3, k4, k5, k6]), by (repeat' (first | (with_reducible exact Below.refl _ _) | (with_reducible assumption) | (with_reducible refine below_drewN ?_ _) | (with_reducible refine Below.drew ?_) | (with_reducible refine Below.alloc ?_ ?_ _) | (with_reducible refine Below.setCell ?_ ?_ _) | (refine Below.trans ?_ (Below.mono (by assumption) ?_)) | go_size))⟩
  · cases hn : (sb != 0)
    · have hn' : (sb == 0) = true := by rw [Bool.eq_iff_iff]; simpa using hn
      cases hp : decide (0 < sl.length)
      · have hp' : ((0 : Int) < (sl.length : Int)) = False := eq_false (by have := of_decide_eq_false hp; omega)
        have hA2 := wiB_iff.1 hA
        obtain ⟨ja, rfl⟩ : ∃ ja : Nat, sa = (ja : Int) := ⟨sa.toNat, by omega⟩
        have hja : ja < W.length := by omega
        obtain ⟨bw, ow, rfl, hbw, va⟩ := HRW.out.int' hja
        obtain rfl : sb = 0 := by simpa using hn
        obtain ⟨jb, hjb0⟩ : ∃ jb : Nat, jb = 0 := ⟨0, rfl⟩
        have hjb : jb < W.length := by omega
        obtain ⟨bw', ow', e', -, vb⟩ := HRW.out.int' hjb
        injection e' with e'
        injection e' with q1 q2
        subst q1 q2
        subst hjb0
        simp only [Nat.add_zero] at vb
        have hu := hr W[ja] (List.getElem_mem hja)
        have hv := hr W[0] (List.getElem_mem hjb)
        have HE : Hid (R = ofW ⟨sk, ja, 0, sc, so, sv, sl⟩ W[ja] W[0]) := hid (by
          rw [HR.out]
          have e1 : W.getD ja 0 = W[ja] := by rw [List.getD_eq_getElem?_getD, List.getElem?_eq_getElem hja]; rfl
          have e2 : W.getD 0 0 = W[0] := by rw [List.getD_eq_getElem?_getD, List.getElem?_eq_getElem hjb]; rfl
          have e3 : badStep ⟨sk, ja, 0, sc, so, sv, sl⟩ ((W.length : Int) - 1) = false := by simp [badStep, twoB, hA, hn, hp, k1, k3, k4, k5, k6]
          unfold stW
          simp only [e3, Int.toNat_natCast, e1]
          rw [if_neg (by omega), if_neg (by simp)]
          rw [show ((0 : Int)).toNat = 0 from rfl, e2])
        generalize W[ja] = u at *
        generalize W[0] = v at *
        have HOF := hid (fun w1 (hbb : Below w.heap.size w w1) => of_any' ⟨⟨sk, ja, 0, sc, so, sv, sl⟩, sA, sK⟩ u v w1 (by omega) (by omega) (HL.out.step hbb) hll)
        simp only [SR.cells] at HOF
        rw [← HE.out] at HOF
        obtain ⟨W1, hW1⟩ : ∃ W1 : World, W1 = w.alloc (.cells #[.int .i64 sk, .int .i64 (ja : Int), .int .i64 0, .int .i64 sc, .int .i64 so, .int .i64 sv, .slice sA sl.length sK] 40) := ⟨_, rfl⟩
        have HX := hid (show Blk W1 w.heap.size #[.int .i64 sk, .int .i64 (ja : Int), .int .i64 0, .int .i64 sc, .int .i64 so, .int .i64 sv, .slice sA sl.length sK] 40 by rw [hW1]; exact Blk.new _ _ _)
        have HB1 := hid (show Below w.heap.size w W1 by rw [hW1]; (repeat' (first | (with_reducible exact Below.refl _ _) | (with_reducible assumption) | (with_reducible refine below_drewN ?_ _) | (with_reducible refine Below.drew ?_) | (with_reducible refine Below.alloc ?_ ?_ _) | (with_reducible refine Below.setCell ?_ ?_ _) | (refine Below.trans ?_ (Below.mono (by assumption) ?_)) | go_size)))
        have va' := ((bcell HB1.out).1 bw _ hbw).trans va
        have vb' := ((bcell HB1.out).1 bw _ hbw).trans vb
        have hbw' : bw < W1.heap.size := Nat.lt_of_lt_of_le hbw HB1.out.size
        have hjal : (ja : Int) < (W.length : Int) := by omega
        have h0l : (0 : Int) < (W.length : Int) := by omega
        clear va vb hbw HR HE hA2
        go_enter Tryd.func31, Tryd.ntmps31
        go_wp2_with (go_at_call 43; refine (qwithin_any _ _ _ _).mono ?_; rintro e w' ⟨rfl, rfl⟩)
        rw [← hW1]
        clear hW1
        obtain ⟨cHX, fHX, sHX, nHX⟩ := HX.out.all
        try simp only [cbox] at cHX
        refine region_ext (by kernel_rfl) (by kernel_rfl) (fun hext => ?_)
        repeat (any_goals ((with_reducible refine wpQuiet_step (fun K hK => ?_)); go_simp; first | (with_reducible refine hK _ ?_; clear hK K) | ((with_reducible apply Exists.intro); (with_reducible refine ⟨fun _ => ?_, hK _ ?_⟩); ((go_at_call 44; (with_reducible refine ext_call _ ?_ (HOF.out _ (Below.step' HB1.out (Ext.below _)))); simp)); clear hK K) | ((with_reducible refine (if_neg ?_).mpr (hK _ ?_)); (decide); clear hK K) | (split <;> (with_reducible refine hK _ ?_; clear hK K))))
        all_goals ((with_reducible refine wpQuiet_nil ?_); clear hext; intro w1 hx1; have hb1 := ext_below hx1; clear hx1)
        have HB2 := hid (Below.step' HB1.out hb1)
        clear hb1
        go_wp2
        go_ret
        exact ⟨rfl, HB2.out⟩
      · have hp' : ((0 : Int) < (sl.length : Int)) = True := eq_true (by have := of_decide_eq_true hp; omega)
        go_enter Tryd.func31, Tryd.ntmps31
        go_wp2_with (go_at_call 43; refine (qwithin_any _ _ _ _).mono ?_; rintro e w' ⟨rfl, rfl⟩)
        go_ret
        exact ⟨ret_int (by rw [HR.out]; simp [stW, tblB, badStep, twoB, hA, hn, hp, k1, k3, k4, k5, k6]), by (repeat' (first | (with_reducible exact Below.refl _ _) | (with_reducible assumption) | (with_reducible refine below_drewN ?_ _) | (with_reducible refine Below.drew ?_) | (with_reducible refine Below.alloc ?_ ?_ _) | (with_reducible refine Below.setCell ?_ ?_ _) | (refine Below.trans ?_ (Below.mono (by assumption) ?_)) | go_size))⟩
    · have hn' : (sb == 0) = false := by rw [Bool.eq_false_iff]; simpa using hn
      go_enter Tryd.func31, Tryd.ntmps31
      go_wp2_with (go_at_call 43; refine (qwithin_any _ _ _ _).mono ?_; rintro e w' ⟨rfl, rfl⟩)
      go_ret
      exact ⟨ret_int (by rw [HR.out]; simp [stW, tblB, badStep, twoB, hA, hn, k1, k3, k4, k5, k6]), by (repeat' (first | (with_reducible exact Below.refl _ _) | (with_reducible assumption) | (with_reducible refine below_drewN ?_ _) | (with_reducible refine Below.drew ?_) | (with_reducible refine Below.alloc ?_ ?_ _) | (with_reducible refine Below.setCell ?_ ?_ _) | (refine Below.trans ?_ (Below.mono (by assumption) ?_)) | go_size))⟩

/-- query.width tells a step's width by those ahead. -/
theorem width_any' (x : SR) (W : List Int) (WA : Option Addr) (Wc : Nat) (w : World) (hl : Row w w.heap.size x.A (icells' x.st.list)) (hll : x.st.list.length ≤ 9223372036854775807) (hW : Row w w.heap.size WA (icells' W)) (hW8 : W.length ≤ 8) (hr : ∀ v ∈ W, 1 ≤ v ∧ v ≤ 8) :
    Calls Tryd.prog 31 #[.agg x.cells.toArray, .slice WA W.length Wc] w fun e w' => e = .returned (.int .i64 (stW x.st W)) ∧ Below w.heap.size w w' := by
  obtain ⟨⟨sk, sa, sb, sc, so, sv, sl⟩, sA, sK⟩ := x
  simp only at hl hll
  by_cases k1 : sk = 1
  · subst k1; exact width_k1 sa sb sc so sv sl sA sK W WA Wc w hl hll hW hW8 hr
  by_cases k3 : sk = 3
  · subst k3; exact width_k3 sa sb sc so sv sl sA sK W WA Wc w hl hll hW hW8 hr
  by_cases k4 : sk = 4
  · subst k4; exact width_k4 sa sb sc so sv sl sA sK W WA Wc w hl hll hW hW8 hr
  by_cases k5 : sk = 5
  · subst k5; exact width_k5 sa sb sc so sv sl sA sK W WA Wc w hl hll hW hW8 hr
  by_cases k6 : sk = 6
  · subst k6; exact width_k6 sa sb sc so sv sl sA sK W WA Wc w hl hll hW hW8 hr
  exact width_k0 sk sa sb sc so sv sl sA sK W WA Wc w hl hll hW hW8 hr ⟨k1, k3, k4, k5, k6⟩
end Go.Proofs.YtamlaeocojcgdaaDoor
/- query.widths, query.Check. -/
namespace Go.Proofs.YtamlaeocojcgdaaDoor
set_option linter.unusedVariables false
set_option linter.unusedSimpArgs false
open Go.ChangeShapes Go.WideShapes Go.ChangeAt Go.RowKit

theorem info_intQ : (Tryd.prog.info? 3).map (fun i => (i.zero, i.size, i.bytes)) = some (some (.int .i64 0), 1, 8) := by kernel_rfl
theorem icellsQ_snoc (l : List Int) (x : Int) : icells' (l ++ [x]) = icells' l ++ icells' [x] := by simp
theorem icellsQ_one (l : List Int) : ∀ u ∈ icells' l, u.oneCell' = true := by
  intro u hu
  obtain ⟨x, -, rfl⟩ := List.mem_map.1 hu
  rfl
theorem widsL_drop {L : List St} {i : Nat} (h : i < L.length) (V : List Int) : widsL (L.drop i) V = if stW L[i] V = 0 then none else widsL (L.drop (i + 1)) (V ++ [stW L[i] V]) := by
  rw [List.drop_eq_getElem_cons h, widsL]

/-- Widths of a call's own making, and an error. -/
def WidsPost (V : List Int) (x : Int) (w : World) (e : Ending) (w' : World) : Prop :=
  ∃ v, e = .returned (.tuple #[v, .int .i64 x]) ∧ w'.ownsRow w.heap.size 3 1 v V.length (icells' V) ∧ Below w.heap.size w w'
theorem widsPost_mk {V V' : List Int} {E x : Int} {w w' : World} {v : Value} (hx : E = x) (hV : V = V') (ho : w'.ownsRow w.heap.size 3 1 v V'.length (icells' V')) (hb : Below w.heap.size w w') : WidsPost V E w (.returned (.tuple #[v, .int .i64 x])) w' := by
  subst hx hV; exact ⟨v, rfl, ho, hb⟩

set_option maxHeartbeats 1000000 in
set_option maxRecDepth 100000 in
theorem widths_any (L : List SR) (A : Option Addr) (c : Nat) (w : World) (hr : RowS w w.heap.size A L) (hl : L.length ≤ 9223372036854775807) :
    Calls Tryd.prog 18 #[.slice A L.length c] w (WidsPost (queryW (sts L)) (queryE (sts L)) w) := by
  have HR := hid hr
  have HW := hid (show queryW (sts L) = if queryE (sts L) = 0 then (widsL (sts L) []).getD [] else [] from rfl)
  have HE := hid (show queryE (sts L) = if (sts L).length = 0 then 1 else if 8 < (sts L).length then 2 else if widsL (sts L) [] = none then 1 else 0 from rfl)
  obtain ⟨E, hE⟩ : ∃ q, q = queryE (sts L) := ⟨_, rfl⟩
  obtain ⟨X, hX⟩ : ∃ q, q = queryW (sts L) := ⟨_, rfl⟩
  rw [← hE, ← hX] at HW ⊢
  rw [← hE] at HE
  have hsl : (sts L).length = L.length := List.length_map ..
  rw [hsl] at HE
  obtain ⟨i1, hi0, hz0, hz1, hz2⟩ := info_parts info_intQ
  clear hE hX hr hsl
  have HN := hid (fun h : E ≠ 0 => show X = [] by rw [HW.out, if_neg h])
  by_cases h0 : L.length = 0
  · have t0 : ((L.length : Int) == 0) = true := by rw [h0]; rfl
    have HE1 := hid (show E = 1 by rw [HE.out, if_pos h0])
    clear h0
    go_enter Tryd.func18, Tryd.ntmps18
    go_wp2_with fail
    go_ret2
    exact widsPost_mk HE1.out (HN.out (by rw [HE1.out]; decide)) (World.ownsRow_nil _ _ _ _) (Below.refl _ _)
  have t0 : ((L.length : Int) == 0) = false := beq_eq_false_iff_ne.2 (by omega)
  by_cases h8 : 8 < L.length
  · have t8 : ((8 : Int) < (L.length : Int)) = True := eq_true (by omega)
    have HE1 := hid (show E = 2 by rw [HE.out, if_neg h0, if_pos h8])
    clear h0 h8
    go_enter Tryd.func18, Tryd.ntmps18
    go_wp2_with fail
    go_ret2
    exact widsPost_mk HE1.out (HN.out (by rw [HE1.out]; decide)) (World.ownsRow_nil _ _ _ _) (Below.refl _ _)
  have t8 : ((8 : Int) < (L.length : Int)) = False := eq_false (by omega)
  replace HE : Hid (E = if widsL (sts L) [] = none then 1 else 0) := hid (by rw [HE.out, if_neg h0, if_neg h8])
  have hl8 : L.length ≤ 8 := by omega
  clear h0 h8
  go_enter Tryd.func18, Tryd.ntmps18
  go_wp2_with fail
  -- STOP-a
  go_loopw [4, 18] (fun s4 s18 wr => ∃ (i : Nat) (V : List Int), i ≤ L.length ∧ s18 = .int .i64 i ∧ V.length = i ∧ Hid (widsL (sts L) [] = widsL ((sts L).drop i) V) ∧ Hid (∀ v ∈ V, 1 ≤ v ∧ v ≤ 8) ∧ Hid (wr.ownsRow w.heap.size 3 1 s4 V.length (icells' V)) ∧ Hid (Below w.heap.size w wr)) (fun _ s18 _ => L.length - (intOf s18).toNat)
  case atStart => exact ⟨0, [], by omega, rfl, rfl, hid rfl, hid (by simp), hid (World.ownsRow_nil _ _ _ _), hid (Below.refl _ _)⟩
  case round =>
    obtain ⟨i, V, hi, rfl, hVl, HWD, HVR, HOWN, HB⟩ := hrel
    obtain ⟨A4, c4, rfl⟩ := own_formS HOWN.out
    have HVL := hid hVl
    have hs := HB.out.size
    have hV8 : V.length ≤ 8 := by omega
    clear hVl
    by_cases hlt : i < L.length
    · obtain ⟨b, off, rfl, hb, e0, e1, e2, e3, e4, e5, e6⟩ := (HR.out.1.step HB.out).sr hlt
      obtain ⟨xl, xll⟩ := (HR.out.2.step HB.out) L[i] (List.getElem_mem hlt)
      have hil : i < (sts L).length := by rw [sts, List.length_map]; exact hlt
      have HSD := hid (show widsL (sts L) [] = if stW L[i].st V = 0 then none else widsL ((sts L).drop (i + 1)) (V ++ [stW L[i].st V]) by
        rw [HWD.out, widsL_drop hil]; simp [sts])
      have HWI := hid (fun w1 (hbb : Below wr.heap.size wr w1) => width_any' L[i] V A4 c4 w1 (xl.step hbb) xll ((Row.of_ownS HOWN.out).step hbb) hV8 HVR.out)
      have HSR := hid (fun h : stW L[i].st V ≠ 0 => stW_range HVR.out h)
      generalize L[i] = x at *
      obtain ⟨⟨sk, sa, sb, sc, so, sv, sl⟩, sA, sK⟩ := x
      simp only [SR.cells] at e0 e1 e2 e3 e4 e5 e6 HWI HSD HSR
      obtain ⟨n, hn⟩ : ∃ n, n = stW ⟨sk, sa, sb, sc, so, sv, sl⟩ V := ⟨_, rfl⟩
      rw [← hn] at HWI HSD HSR
      have hne : (b = wr.heap.size) = False := by simp; omega
      clear hn xl xll hil
      obtain ⟨wo, rfl⟩ : ∃ wx : World, wx = wr := ⟨_, rfl⟩
      by_cases q0 : n = 0
      · subst q0
        have HE1 := hid (show E = 1 by rw [HE.out, HSD.out, if_pos rfl, if_pos rfl])
        go_wp2_with fail
        -- STOP-b
        refine (HWI.out _ (by exact (Below.refl _ _).alloc (Nat.le_refl _) _)).mono ?_
        rintro e w1 ⟨rfl, hb1⟩
        have hB1 : Below wo.heap.size wo w1 := (by refine Below.step' ?_ hb1; (repeat' (first | (with_reducible exact Below.refl _ _) | (with_reducible assumption) | (with_reducible refine below_drewN ?_ _) | (with_reducible refine Below.drew ?_) | (with_reducible refine Below.alloc ?_ ?_ _) | (with_reducible refine Below.setCell ?_ ?_ _) | (refine Below.trans ?_ (Below.mono (by assumption) ?_)) | go_size)))
        have HB1 := hid hB1
        clear hb1 hB1
        go_wp2_with fail
        go_ret2
        exact widsPost_mk HE1.out (HN.out (by rw [HE1.out]; decide)) (World.ownsRow_nil _ _ _ _) (Below.step' HB.out HB1.out)
      · have t1 : (n == 0) = false := beq_eq_false_iff_ne.2 q0
        have HSN := hid (show widsL (sts L) [] = widsL ((sts L).drop (i + 1)) (V ++ [n]) by rw [HSD.out, if_neg q0])
        have HNR := hid (HSR.out q0)
        clear q0
        go_wp2_with fail
        -- STOP-c
        refine (HWI.out _ (by exact (Below.refl _ _).alloc (Nat.le_refl _) _)).mono ?_
        rintro e w1 ⟨rfl, hb1⟩
        have hB1 : Below wo.heap.size wo w1 := (by refine Below.step' ?_ hb1; (repeat' (first | (with_reducible exact Below.refl _ _) | (with_reducible assumption) | (with_reducible refine below_drewN ?_ _) | (with_reducible refine Below.drew ?_) | (with_reducible refine Below.alloc ?_ ?_ _) | (with_reducible refine Below.setCell ?_ ?_ _) | (refine Below.trans ?_ (Below.mono (by assumption) ?_)) | go_size)))
        have HB1 := hid hB1
        have hs1 := hB1.size
        have HO1 := hid (own_laterS HOWN.out hB1)
        clear hb1 hB1
        go_wp2_with (at_builtin; refine wpList_append_own _ rfl _ _ 26 rfl w.heap.size 3 i1 _ 1 8 Tryd.underlying26 hi0 hz0 hz1 hz2 rfl (by decide) _ _ _ rfl (HO1.out.alloc _) ⟨w1.heap.size, 0, none⟩ 1 1 (icells' [n]) rfl rfl (news_at _ [.int .i64 n] _ _ rfl) (icellsQ_one _) ?_ ?_ ?_ ?_; rotate_right; intro v6 w6 hown6 hg6 _; rotate_left; (simp only [maxLen]; omega); (omega); (simp; omega))
        -- STOP-d
        have HOW6 := hid hown6
        have HG6 := hid hg6
        clear hown6 hg6
        go_roundw
        case rel =>
          refine ⟨i + 1, V ++ [n], by omega, by go_num, by have := HVL.out; simp; omega, HSN, hid (fun v hv => ?_), hid ?_, hid (Below.grown (alloc_below (Below.step' HB.out HB1.out) _) HG6.out (by simp; omega) (fun g e => (HO1.out.lt g e).1))⟩
          · rcases List.mem_append.1 hv with q | q
            · exact HVR.out v q
            · rw [List.mem_singleton.1 q]; exact HNR.out
          · rw [icellsQ_snoc, List.length_append]
            simpa using HOW6.out
        case measure => simp [intOf]; omega
    · have hik : i = L.length := by omega
      have hdr : (sts L).drop i = [] := List.drop_eq_nil_of_le (by rw [sts, List.length_map]; omega)
      have HE0 := hid (show E = 0 by rw [HE.out, HWD.out, hdr, widsL, if_neg (by simp)])
      have HX0 := hid (show X = V by rw [HW.out, if_pos HE0.out, HWD.out, hdr, widsL]; rfl)
      clear hdr
      subst hik
      go_wp2_with fail
      -- STOP-e
      go_ret2
      exact widsPost_mk HE0.out HX0.out HOWN.out HB.out

set_option maxRecDepth 100000 in
theorem qcheck_any (L : List SR) (A : Option Addr) (c : Nat) (w : World) (hr : RowS w w.heap.size A L) (hl : L.length ≤ 9223372036854775807) :
    Calls Tryd.prog 12 #[.slice A L.length c] w fun e w' => e = .returned (.int .i64 (queryE (sts L))) ∧ Below w.heap.size w w' := by
  have HW := hid (widths_any L A c w hr hl)
  obtain ⟨E, hE⟩ : ∃ q, q = queryE (sts L) := ⟨_, rfl⟩
  rw [← hE] at HW ⊢
  clear hE hr
  go_enter Tryd.func12, Tryd.ntmps12
  go_wp2_with fail
  refine HW.out.mono ?_
  rintro e w1 ⟨v, rfl, -, hb1⟩
  have HB := hid hb1
  clear hb1
  go_wp2_with fail
  go_ret
  exact ⟨rfl, HB.out⟩
end Go.Proofs.YtamlaeocojcgdaaDoor
