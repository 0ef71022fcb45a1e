/- QyB, ZsF, ZsG, QyC, RkB, RkC -/
import Derived.Test.YtldlmkfigjicgaaDoorCk06
import Derived.Test.YtldlmkfigjicgaaDoorCk07
import Derived.Test.YtldlmkfigjicgaaDoorCk02
import Derived.Test.YtldlmkfigjicgaaDoorCk04
import Derived.Handy
import Derived.Deep.RegionHeld3
import Derived.Test.YtldlmkfigjicgaaDoorCk03
import Derived.Shelf.SlSortCmp.NoneTotal
/- query.width. -/
namespace Go.Proofs.YtldlmkfigjicgaaDoor
set_option linter.unusedVariables false
set_option linter.unusedSimpArgs false
open Go.ChangeShapes Go.WideShapes Go.ChangeAt Go.RowKit

theorem getD_in {W : List Int} {j : Nat} (h : j < W.length) (hr : ∀ v ∈ W, 1 ≤ v ∧ v ≤ 8) : 1 ≤ W.getD j 0 ∧ W.getD j 0 ≤ 8 := by
  rw [List.getD_eq_getElem?_getD, List.getElem?_eq_getElem h]
  exact hr _ (List.getElem_mem h)
theorem stW_range {s : St} {W : List Int} (hr : ∀ v ∈ W, 1 ≤ v ∧ v ≤ 8) (h : stW s W ≠ 0) : 1 ≤ stW s W ∧ stW s W ≤ 8 := by
  have hv := stW_val h
  have ho := stW_ok h
  rw [hv] at h ⊢
  unfold wv at h ⊢
  rcases ho with ⟨k1, -⟩ | ⟨a0, a1, b0, b1, hk⟩
  · rw [if_pos k1]; omega
  · have hA := getD_in (W := W) (j := s.a.toNat) (by omega) hr
    have hB := getD_in (W := W) (j := s.b.toNat) (by omega) hr
    generalize W.getD s.a.toNat 0 = u at *
    generalize W.getD s.b.toNat 0 = v at *
    rcases hk with ⟨k, -⟩ | ⟨k, l, -⟩ | ⟨k, -, -, -, -, e⟩ | ⟨k, -⟩ | k | ⟨k, -⟩ | ⟨k, -⟩
    · rw [if_neg (by omega), if_neg (by omega), if_neg (by omega), if_neg (by omega)]; omega
    · rw [if_neg (by omega), if_pos k] at h ⊢; omega
    · rw [if_neg (by omega), if_neg (by omega), if_pos k]; omega
    · rw [if_neg (by omega), if_neg (by omega), if_neg (by omega), if_neg (by omega)]; omega
    · rw [if_neg (by omega), if_neg (by omega), if_neg (by omega), if_neg (by omega)]; omega
    · rw [if_neg (by omega), if_neg (by omega), if_neg (by omega), if_pos (by omega)]; omega
    · rw [if_neg (by omega), if_neg (by omega), if_neg (by omega), if_pos (by omega)]; omega

set_option maxHeartbeats 1000000 in
set_option maxRecDepth 100000 in
theorem width_k1 (sa sb sc so sv : Int) (sl : List Int) (sA : Option Addr) (sK : Nat) (W : List Int) (WA : Option Addr) (Wc : Nat) (w : World) (hl : Row w w.heap.size sA (icells' sl)) (hll : sl.length ≤ 9223372036854775807) (hW : Row w w.heap.size WA (icells' W)) (hW8 : W.length ≤ 8) (hr : ∀ v ∈ W, 1 ≤ v ∧ v ≤ 8) :
    Calls Tryd.prog 85 #[.agg #[.int .i64 1, .int .i64 sa, .int .i64 sb, .int .i64 sc, .int .i64 so, .int .i64 sv, .slice sA sl.length sK], .slice WA W.length Wc] w fun e w' => e = .returned (.int .i64 (stW ⟨1, sa, sb, sc, so, sv, sl⟩ W)) ∧ Below w.heap.size w w' := by
  obtain ⟨R, hR⟩ : ∃ R, R = stW ⟨1, sa, sb, sc, so, sv, sl⟩ W := ⟨_, rfl⟩
  rw [← hR]
  have HR := hid hR
  clear hR
  have HL := hid hl
  have HRW := hid hW
  clear hl hW
  have hwl : IntKind.i64.wrap ((W.length : Int) - 1) = (W.length : Int) - 1 := IntWalk.i64_in _ (by omega)
  cases htA : wiB sa 0 1
  · go_enter Tryd.func85, Tryd.ntmps85
    go_wp2_with (go_at_call 111; refine (qwithin_any _ _ _ _).mono ?_; rintro e w' ⟨rfl, rfl⟩)
    go_ret
    exact ⟨ret_int (by rw [HR.out]; simp [stW, tblB, badStep, twoB, htA]), by (repeat' (first | (with_reducible exact Below.refl _ _) | (with_reducible assumption) | (with_reducible refine below_drewN ?_ _) | (with_reducible refine Below.drew ?_) | (with_reducible refine Below.alloc ?_ ?_ _) | (with_reducible refine Below.setCell ?_ ?_ _) | (refine Below.trans ?_ (Below.mono (by assumption) ?_)) | go_size))⟩
  · cases htb : (sb == 0)
    · go_enter Tryd.func85, Tryd.ntmps85
      go_wp2_with (go_at_call 111; refine (qwithin_any _ _ _ _).mono ?_; rintro e w' ⟨rfl, rfl⟩)
      go_ret
      exact ⟨ret_int (by rw [HR.out]; simp [stW, tblB, badStep, twoB, htA, htb]), by (repeat' (first | (with_reducible exact Below.refl _ _) | (with_reducible assumption) | (with_reducible refine below_drewN ?_ _) | (with_reducible refine Below.drew ?_) | (with_reducible refine Below.alloc ?_ ?_ _) | (with_reducible refine Below.setCell ?_ ?_ _) | (refine Below.trans ?_ (Below.mono (by assumption) ?_)) | go_size))⟩
    · cases htc : (sc == 0)
      · go_enter Tryd.func85, Tryd.ntmps85
        go_wp2_with (go_at_call 111; refine (qwithin_any _ _ _ _).mono ?_; rintro e w' ⟨rfl, rfl⟩)
        go_ret
        exact ⟨ret_int (by rw [HR.out]; simp [stW, tblB, badStep, twoB, htA, htb, htc]), by (repeat' (first | (with_reducible exact Below.refl _ _) | (with_reducible assumption) | (with_reducible refine below_drewN ?_ _) | (with_reducible refine Below.drew ?_) | (with_reducible refine Below.alloc ?_ ?_ _) | (with_reducible refine Below.setCell ?_ ?_ _) | (refine Below.trans ?_ (Below.mono (by assumption) ?_)) | go_size))⟩
      · cases hto : (so == 0)
        · go_enter Tryd.func85, Tryd.ntmps85
          go_wp2_with (go_at_call 111; refine (qwithin_any _ _ _ _).mono ?_; rintro e w' ⟨rfl, rfl⟩)
          go_ret
          exact ⟨ret_int (by rw [HR.out]; simp [stW, tblB, badStep, twoB, htA, htb, htc, hto]), by (repeat' (first | (with_reducible exact Below.refl _ _) | (with_reducible assumption) | (with_reducible refine below_drewN ?_ _) | (with_reducible refine Below.drew ?_) | (with_reducible refine Below.alloc ?_ ?_ _) | (with_reducible refine Below.setCell ?_ ?_ _) | (refine Below.trans ?_ (Below.mono (by assumption) ?_)) | go_size))⟩
        · cases htv : (sv == 0)
          · go_enter Tryd.func85, Tryd.ntmps85
            go_wp2_with (go_at_call 111; refine (qwithin_any _ _ _ _).mono ?_; rintro e w' ⟨rfl, rfl⟩)
            go_ret
            exact ⟨ret_int (by rw [HR.out]; simp [stW, tblB, badStep, twoB, htA, htb, htc, hto, htv]), by (repeat' (first | (with_reducible exact Below.refl _ _) | (with_reducible assumption) | (with_reducible refine below_drewN ?_ _) | (with_reducible refine Below.drew ?_) | (with_reducible refine Below.alloc ?_ ?_ _) | (with_reducible refine Below.setCell ?_ ?_ _) | (refine Below.trans ?_ (Below.mono (by assumption) ?_)) | go_size))⟩
          · cases htl : (sl.length == 0)
            · have htl' : ((sl.length : Int) == 0) = false := beq_eq_false_iff_ne.2 (by have := beq_eq_false_iff_ne.1 htl; omega)
              go_enter Tryd.func85, Tryd.ntmps85
              go_wp2_with (go_at_call 111; refine (qwithin_any _ _ _ _).mono ?_; rintro e w' ⟨rfl, rfl⟩)
              go_ret
              exact ⟨ret_int (by rw [HR.out]; simp [stW, tblB, badStep, twoB, htA, htb, htc, hto, htv, htl]), by (repeat' (first | (with_reducible exact Below.refl _ _) | (with_reducible assumption) | (with_reducible refine below_drewN ?_ _) | (with_reducible refine Below.drew ?_) | (with_reducible refine Below.alloc ?_ ?_ _) | (with_reducible refine Below.setCell ?_ ?_ _) | (refine Below.trans ?_ (Below.mono (by assumption) ?_)) | go_size))⟩
            · have htl' : ((sl.length : Int) == 0) = true := beq_iff_eq.2 (by have := beq_iff_eq.1 htl; omega)
              go_enter Tryd.func85, Tryd.ntmps85
              go_wp2_with (go_at_call 111; refine (qwithin_any _ _ _ _).mono ?_; rintro e w' ⟨rfl, rfl⟩)
              go_ret
              exact ⟨ret_int (by rw [HR.out]; simp [stW, tblB, badStep, twoB, htA, htb, htc, hto, htv, htl]), by (repeat' (first | (with_reducible exact Below.refl _ _) | (with_reducible assumption) | (with_reducible refine below_drewN ?_ _) | (with_reducible refine Below.drew ?_) | (with_reducible refine Below.alloc ?_ ?_ _) | (with_reducible refine Below.setCell ?_ ?_ _) | (refine Below.trans ?_ (Below.mono (by assumption) ?_)) | go_size))⟩
set_option maxHeartbeats 1000000 in
set_option maxRecDepth 100000 in
theorem width_k3 (sa sb sc so sv : Int) (sl : List Int) (sA : Option Addr) (sK : Nat) (W : List Int) (WA : Option Addr) (Wc : Nat) (w : World) (hl : Row w w.heap.size sA (icells' sl)) (hll : sl.length ≤ 9223372036854775807) (hW : Row w w.heap.size WA (icells' W)) (hW8 : W.length ≤ 8) (hr : ∀ v ∈ W, 1 ≤ v ∧ v ≤ 8) :
    Calls Tryd.prog 85 #[.agg #[.int .i64 3, .int .i64 sa, .int .i64 sb, .int .i64 sc, .int .i64 so, .int .i64 sv, .slice sA sl.length sK], .slice WA W.length Wc] w fun e w' => e = .returned (.int .i64 (stW ⟨3, sa, sb, sc, so, sv, sl⟩ W)) ∧ Below w.heap.size w w' := by
  obtain ⟨R, hR⟩ : ∃ R, R = stW ⟨3, sa, sb, sc, so, sv, sl⟩ W := ⟨_, rfl⟩
  rw [← hR]
  have HR := hid hR
  clear hR
  have HL := hid hl
  have HRW := hid hW
  clear hl hW
  have hwl : IntKind.i64.wrap ((W.length : Int) - 1) = (W.length : Int) - 1 := IntWalk.i64_in _ (by omega)
  cases hA : wiB sa 0 ((W.length : Int) - 1)
  · go_enter Tryd.func85, Tryd.ntmps85
    go_wp2_with (go_at_call 111; refine (qwithin_any _ _ _ _).mono ?_; rintro e w' ⟨rfl, rfl⟩)
    go_ret
    exact ⟨ret_int (by rw [HR.out]; simp [stW, tblB, badStep, twoB, hA]), by (repeat' (first | (with_reducible exact Below.refl _ _) | (with_reducible assumption) | (with_reducible refine below_drewN ?_ _) | (with_reducible refine Below.drew ?_) | (with_reducible refine Below.alloc ?_ ?_ _) | (with_reducible refine Below.setCell ?_ ?_ _) | (refine Below.trans ?_ (Below.mono (by assumption) ?_)) | go_size))⟩
  · cases hn : (sb != 0)
    · have hn' : (sb == 0) = true := by rw [Bool.eq_iff_iff]; simpa using hn
      cases hp : decide (0 < sl.length)
      · have hp' : ((0 : Int) < (sl.length : Int)) = False := eq_false (by have := of_decide_eq_false hp; omega)
        go_enter Tryd.func85, Tryd.ntmps85
        go_wp2_with (go_at_call 111; refine (qwithin_any _ _ _ _).mono ?_; rintro e w' ⟨rfl, rfl⟩)
        go_ret
        exact ⟨ret_int (by rw [HR.out]; simp [stW, tblB, badStep, twoB, hA, hn, hp]), by (repeat' (first | (with_reducible exact Below.refl _ _) | (with_reducible assumption) | (with_reducible refine below_drewN ?_ _) | (with_reducible refine Below.drew ?_) | (with_reducible refine Below.alloc ?_ ?_ _) | (with_reducible refine Below.setCell ?_ ?_ _) | (refine Below.trans ?_ (Below.mono (by assumption) ?_)) | go_size))⟩
      · have hp' : ((0 : Int) < (sl.length : Int)) = True := eq_true (by have := of_decide_eq_true hp; omega)
        have hA2 := wiB_iff.1 hA
        obtain ⟨ja, rfl⟩ : ∃ ja : Nat, sa = (ja : Int) := ⟨sa.toNat, by omega⟩
        have hja : ja < W.length := by omega
        obtain ⟨bw, ow, rfl, hbw, va⟩ := HRW.out.int' hja
        obtain rfl : sb = 0 := by simpa using hn
        obtain ⟨jb, hjb0⟩ : ∃ jb : Nat, jb = 0 := ⟨0, rfl⟩
        have hjb : jb < W.length := by omega
        obtain ⟨bw', ow', e', -, vb⟩ := HRW.out.int' hjb
        injection e' with e'
        injection e' with q1 q2
        subst q1 q2
        subst hjb0
        simp only [Nat.add_zero] at vb
        have hu := hr W[ja] (List.getElem_mem hja)
        have hv := hr W[0] (List.getElem_mem hjb)
        have HE : Hid (R = ofW ⟨3, ja, 0, sc, so, sv, sl⟩ W[ja] W[0]) := hid (by
          rw [HR.out]
          have e1 : W.getD ja 0 = W[ja] := by rw [List.getD_eq_getElem?_getD, List.getElem?_eq_getElem hja]; rfl
          have e2 : W.getD 0 0 = W[0] := by rw [List.getD_eq_getElem?_getD, List.getElem?_eq_getElem hjb]; rfl
          have e3 : badStep ⟨3, ja, 0, sc, so, sv, sl⟩ ((W.length : Int) - 1) = false := by simp [badStep, twoB, hA, hn, hp]
          unfold stW
          simp only [e3, Int.toNat_natCast, e1]
          rw [if_neg (by omega), if_neg (by simp)]
          rw [show ((0 : Int)).toNat = 0 from rfl, e2])
        generalize W[ja] = u at *
        generalize W[0] = v at *
        have HOF := hid (fun w1 (hbb : Below w.heap.size w w1) => of_any' ⟨⟨3, ja, 0, sc, so, sv, sl⟩, sA, sK⟩ u v w1 (by omega) (by omega) (HL.out.step hbb) hll)
        simp only [SR.cells] at HOF
        rw [← HE.out] at HOF
        obtain ⟨W1, hW1⟩ : ∃ W1 : World, W1 = w.alloc (.cells #[.int .i64 3, .int .i64 (ja : Int), .int .i64 0, .int .i64 sc, .int .i64 so, .int .i64 sv, .slice sA sl.length sK] 64) := ⟨_, rfl⟩
        have HX := hid (show Blk W1 w.heap.size #[.int .i64 3, .int .i64 (ja : Int), .int .i64 0, .int .i64 sc, .int .i64 so, .int .i64 sv, .slice sA sl.length sK] 64 by rw [hW1]; exact Blk.new _ _ _)
        have HB1 := hid (show Below w.heap.size w W1 by rw [hW1]; (repeat' (first | (with_reducible exact Below.refl _ _) | (with_reducible assumption) | (with_reducible refine below_drewN ?_ _) | (with_reducible refine Below.drew ?_) | (with_reducible refine Below.alloc ?_ ?_ _) | (with_reducible refine Below.setCell ?_ ?_ _) | (refine Below.trans ?_ (Below.mono (by assumption) ?_)) | go_size)))
        have va' := ((bcell HB1.out).1 bw _ hbw).trans va
        have vb' := ((bcell HB1.out).1 bw _ hbw).trans vb
        have hbw' : bw < W1.heap.size := Nat.lt_of_lt_of_le hbw HB1.out.size
        have hjal : (ja : Int) < (W.length : Int) := by omega
        have h0l : (0 : Int) < (W.length : Int) := by omega
        clear va vb hbw HR HE hA2
        go_enter Tryd.func85, Tryd.ntmps85
        go_wp2_with (go_at_call 111; refine (qwithin_any _ _ _ _).mono ?_; rintro e w' ⟨rfl, rfl⟩)
        rw [← hW1]
        clear hW1
        obtain ⟨cHX, fHX, sHX, nHX⟩ := HX.out.all
        try simp only [cbox] at cHX
        refine region_ext (by kernel_rfl) (by kernel_rfl) (fun hext => ?_)
        repeat (any_goals ((with_reducible refine wpQuiet_step (fun K hK => ?_)); go_simp; first | (with_reducible refine hK _ ?_; clear hK K) | ((with_reducible apply Exists.intro); (with_reducible refine ⟨fun _ => ?_, hK _ ?_⟩); ((go_at_call 112; (with_reducible refine ext_call _ ?_ (HOF.out _ (Below.step' HB1.out (Ext.below _)))); simp)); clear hK K) | ((with_reducible refine (if_neg ?_).mpr (hK _ ?_)); (decide); clear hK K) | (split <;> (with_reducible refine hK _ ?_; clear hK K))))
        all_goals ((with_reducible refine wpQuiet_nil ?_); clear hext; intro w1 hx1; have hb1 := ext_below hx1; clear hx1)
        have HB2 := hid (Below.step' HB1.out hb1)
        clear hb1
        go_wp2
        go_ret
        exact ⟨rfl, HB2.out⟩
    · have hn' : (sb == 0) = false := by rw [Bool.eq_false_iff]; simpa using hn
      go_enter Tryd.func85, Tryd.ntmps85
      go_wp2_with (go_at_call 111; refine (qwithin_any _ _ _ _).mono ?_; rintro e w' ⟨rfl, rfl⟩)
      go_ret
      exact ⟨ret_int (by rw [HR.out]; simp [stW, tblB, badStep, twoB, hA, hn]), by (repeat' (first | (with_reducible exact Below.refl _ _) | (with_reducible assumption) | (with_reducible refine below_drewN ?_ _) | (with_reducible refine Below.drew ?_) | (with_reducible refine Below.alloc ?_ ?_ _) | (with_reducible refine Below.setCell ?_ ?_ _) | (refine Below.trans ?_ (Below.mono (by assumption) ?_)) | go_size))⟩
set_option maxHeartbeats 1000000 in
set_option maxRecDepth 100000 in
theorem width_k4 (sa sb sc so sv : Int) (sl : List Int) (sA : Option Addr) (sK : Nat) (W : List Int) (WA : Option Addr) (Wc : Nat) (w : World) (hl : Row w w.heap.size sA (icells' sl)) (hll : sl.length ≤ 9223372036854775807) (hW : Row w w.heap.size WA (icells' W)) (hW8 : W.length ≤ 8) (hr : ∀ v ∈ W, 1 ≤ v ∧ v ≤ 8) :
    Calls Tryd.prog 85 #[.agg #[.int .i64 4, .int .i64 sa, .int .i64 sb, .int .i64 sc, .int .i64 so, .int .i64 sv, .slice sA sl.length sK], .slice WA W.length Wc] w fun e w' => e = .returned (.int .i64 (stW ⟨4, sa, sb, sc, so, sv, sl⟩ W)) ∧ Below w.heap.size w w' := by
  obtain ⟨R, hR⟩ : ∃ R, R = stW ⟨4, sa, sb, sc, so, sv, sl⟩ W := ⟨_, rfl⟩
  rw [← hR]
  have HR := hid hR
  clear hR
  have HL := hid hl
  have HRW := hid hW
  clear hl hW
  have hwl : IntKind.i64.wrap ((W.length : Int) - 1) = (W.length : Int) - 1 := IntWalk.i64_in _ (by omega)
  cases hA : wiB sa 0 ((W.length : Int) - 1)
  · go_enter Tryd.func85, Tryd.ntmps85
    go_wp2_with (go_at_call 111; refine (qwithin_any _ _ _ _).mono ?_; rintro e w' ⟨rfl, rfl⟩)
    go_ret
    exact ⟨ret_int (by rw [HR.out]; simp [stW, tblB, badStep, twoB, hA]), by (repeat' (first | (with_reducible exact Below.refl _ _) | (with_reducible assumption) | (with_reducible refine below_drewN ?_ _) | (with_reducible refine Below.drew ?_) | (with_reducible refine Below.alloc ?_ ?_ _) | (with_reducible refine Below.setCell ?_ ?_ _) | (refine Below.trans ?_ (Below.mono (by assumption) ?_)) | go_size))⟩
  · cases hB : wiB sb 0 ((W.length : Int) - 1)
    · go_enter Tryd.func85, Tryd.ntmps85
      go_wp2_with (go_at_call 111; refine (qwithin_any _ _ _ _).mono ?_; rintro e w' ⟨rfl, rfl⟩)
      go_ret
      exact ⟨ret_int (by rw [HR.out]; simp [stW, tblB, badStep, twoB, hA, hB]), by (repeat' (first | (with_reducible exact Below.refl _ _) | (with_reducible assumption) | (with_reducible refine below_drewN ?_ _) | (with_reducible refine Below.drew ?_) | (with_reducible refine Below.alloc ?_ ?_ _) | (with_reducible refine Below.setCell ?_ ?_ _) | (refine Below.trans ?_ (Below.mono (by assumption) ?_)) | go_size))⟩
    · cases hp : decide (0 < sl.length)
      · have hp' : ((0 : Int) < (sl.length : Int)) = False := eq_false (by have := of_decide_eq_false hp; omega)
        have hA2 := wiB_iff.1 hA
        obtain ⟨ja, rfl⟩ : ∃ ja : Nat, sa = (ja : Int) := ⟨sa.toNat, by omega⟩
        have hja : ja < W.length := by omega
        obtain ⟨bw, ow, rfl, hbw, va⟩ := HRW.out.int' hja
        have hB2 := wiB_iff.1 hB
        obtain ⟨jb, rfl⟩ : ∃ jb : Nat, sb = (jb : Int) := ⟨sb.toNat, by omega⟩
        have hjb : jb < W.length := by omega
        obtain ⟨bw', ow', e', -, vb⟩ := HRW.out.int' hjb
        injection e' with e'
        injection e' with q1 q2
        subst q1 q2
        have hu := hr W[ja] (List.getElem_mem hja)
        have hv := hr W[jb] (List.getElem_mem hjb)
        have HE : Hid (R = ofW ⟨4, ja, (jb : Int), sc, so, sv, sl⟩ W[ja] W[jb]) := hid (by
          rw [HR.out]
          have e1 : W.getD ja 0 = W[ja] := by rw [List.getD_eq_getElem?_getD, List.getElem?_eq_getElem hja]; rfl
          have e2 : W.getD jb 0 = W[jb] := by rw [List.getD_eq_getElem?_getD, List.getElem?_eq_getElem hjb]; rfl
          have e3 : badStep ⟨4, ja, (jb : Int), sc, so, sv, sl⟩ ((W.length : Int) - 1) = false := by simp [badStep, twoB, hA, hB, hp]
          unfold stW
          simp only [e3, Int.toNat_natCast, e1]
          rw [if_neg (by omega), if_neg (by simp)]
          rw [e2])
        generalize W[ja] = u at *
        generalize W[jb] = v at *
        have HOF := hid (fun w1 (hbb : Below w.heap.size w w1) => of_any' ⟨⟨4, ja, (jb : Int), sc, so, sv, sl⟩, sA, sK⟩ u v w1 (by omega) (by omega) (HL.out.step hbb) hll)
        simp only [SR.cells] at HOF
        rw [← HE.out] at HOF
        obtain ⟨W1, hW1⟩ : ∃ W1 : World, W1 = w.alloc (.cells #[.int .i64 4, .int .i64 (ja : Int), .int .i64 (jb : Int), .int .i64 sc, .int .i64 so, .int .i64 sv, .slice sA sl.length sK] 64) := ⟨_, rfl⟩
        have HX := hid (show Blk W1 w.heap.size #[.int .i64 4, .int .i64 (ja : Int), .int .i64 (jb : Int), .int .i64 sc, .int .i64 so, .int .i64 sv, .slice sA sl.length sK] 64 by rw [hW1]; exact Blk.new _ _ _)
        have HB1 := hid (show Below w.heap.size w W1 by rw [hW1]; (repeat' (first | (with_reducible exact Below.refl _ _) | (with_reducible assumption) | (with_reducible refine below_drewN ?_ _) | (with_reducible refine Below.drew ?_) | (with_reducible refine Below.alloc ?_ ?_ _) | (with_reducible refine Below.setCell ?_ ?_ _) | (refine Below.trans ?_ (Below.mono (by assumption) ?_)) | go_size)))
        have va' := ((bcell HB1.out).1 bw _ hbw).trans va
        have vb' := ((bcell HB1.out).1 bw _ hbw).trans vb
        have hbw' : bw < W1.heap.size := Nat.lt_of_lt_of_le hbw HB1.out.size
        have hjal : (ja : Int) < (W.length : Int) := by omega
        have hjbl : (jb : Int) < (W.length : Int) := by omega
        have h0l : (0 : Int) < (W.length : Int) := by omega
        clear va vb hbw HR HE hA2 hB2
        go_enter Tryd.func85, Tryd.ntmps85
        go_wp2_with (go_at_call 111; refine (qwithin_any _ _ _ _).mono ?_; rintro e w' ⟨rfl, rfl⟩)
        rw [← hW1]
        clear hW1
        obtain ⟨cHX, fHX, sHX, nHX⟩ := HX.out.all
        try simp only [cbox] at cHX
        refine region_ext (by kernel_rfl) (by kernel_rfl) (fun hext => ?_)
        repeat (any_goals ((with_reducible refine wpQuiet_step (fun K hK => ?_)); go_simp; first | (with_reducible refine hK _ ?_; clear hK K) | ((with_reducible apply Exists.intro); (with_reducible refine ⟨fun _ => ?_, hK _ ?_⟩); ((go_at_call 112; (with_reducible refine ext_call _ ?_ (HOF.out _ (Below.step' HB1.out (Ext.below _)))); simp)); clear hK K) | ((with_reducible refine (if_neg ?_).mpr (hK _ ?_)); (decide); clear hK K) | (split <;> (with_reducible refine hK _ ?_; clear hK K))))
        all_goals ((with_reducible refine wpQuiet_nil ?_); clear hext; intro w1 hx1; have hb1 := ext_below hx1; clear hx1)
        have HB2 := hid (Below.step' HB1.out hb1)
        clear hb1
        go_wp2
        go_ret
        exact ⟨rfl, HB2.out⟩
      · have hp' : ((0 : Int) < (sl.length : Int)) = True := eq_true (by have := of_decide_eq_true hp; omega)
        go_enter Tryd.func85, Tryd.ntmps85
        go_wp2_with (go_at_call 111; refine (qwithin_any _ _ _ _).mono ?_; rintro e w' ⟨rfl, rfl⟩)
        go_ret
        exact ⟨ret_int (by rw [HR.out]; simp [stW, tblB, badStep, twoB, hA, hB, hp]), by (repeat' (first | (with_reducible exact Below.refl _ _) | (with_reducible assumption) | (with_reducible refine below_drewN ?_ _) | (with_reducible refine Below.drew ?_) | (with_reducible refine Below.alloc ?_ ?_ _) | (with_reducible refine Below.setCell ?_ ?_ _) | (refine Below.trans ?_ (Below.mono (by assumption) ?_)) | go_size))⟩
set_option maxHeartbeats 1000000 in
set_option maxRecDepth 100000 in
theorem width_k5 (sa sb sc so sv : Int) (sl : List Int) (sA : Option Addr) (sK : Nat) (W : List Int) (WA : Option Addr) (Wc : Nat) (w : World) (hl : Row w w.heap.size sA (icells' sl)) (hll : sl.length ≤ 9223372036854775807) (hW : Row w w.heap.size WA (icells' W)) (hW8 : W.length ≤ 8) (hr : ∀ v ∈ W, 1 ≤ v ∧ v ≤ 8) :
    Calls Tryd.prog 85 #[.agg #[.int .i64 5, .int .i64 sa, .int .i64 sb, .int .i64 sc, .int .i64 so, .int .i64 sv, .slice sA sl.length sK], .slice WA W.length Wc] w fun e w' => e = .returned (.int .i64 (stW ⟨5, sa, sb, sc, so, sv, sl⟩ W)) ∧ Below w.heap.size w w' := by
  obtain ⟨R, hR⟩ : ∃ R, R = stW ⟨5, sa, sb, sc, so, sv, sl⟩ W := ⟨_, rfl⟩
  rw [← hR]
  have HR := hid hR
  clear hR
  have HL := hid hl
  have HRW := hid hW
  clear hl hW
  have hwl : IntKind.i64.wrap ((W.length : Int) - 1) = (W.length : Int) - 1 := IntWalk.i64_in _ (by omega)
  cases hA : wiB sa 0 ((W.length : Int) - 1)
  · go_enter Tryd.func85, Tryd.ntmps85
    go_wp2_with (go_at_call 111; refine (qwithin_any _ _ _ _).mono ?_; rintro e w' ⟨rfl, rfl⟩)
    go_ret
    exact ⟨ret_int (by rw [HR.out]; simp [stW, tblB, badStep, twoB, hA]), by (repeat' (first | (with_reducible exact Below.refl _ _) | (with_reducible assumption) | (with_reducible refine below_drewN ?_ _) | (with_reducible refine Below.drew ?_) | (with_reducible refine Below.alloc ?_ ?_ _) | (with_reducible refine Below.setCell ?_ ?_ _) | (refine Below.trans ?_ (Below.mono (by assumption) ?_)) | go_size))⟩
  · cases hB : wiB sb 0 ((W.length : Int) - 1)
    · go_enter Tryd.func85, Tryd.ntmps85
      go_wp2_with (go_at_call 111; refine (qwithin_any _ _ _ _).mono ?_; rintro e w' ⟨rfl, rfl⟩)
      go_ret
      exact ⟨ret_int (by rw [HR.out]; simp [stW, tblB, badStep, twoB, hA, hB]), by (repeat' (first | (with_reducible exact Below.refl _ _) | (with_reducible assumption) | (with_reducible refine below_drewN ?_ _) | (with_reducible refine Below.drew ?_) | (with_reducible refine Below.alloc ?_ ?_ _) | (with_reducible refine Below.setCell ?_ ?_ _) | (refine Below.trans ?_ (Below.mono (by assumption) ?_)) | go_size))⟩
    · cases hp : decide (0 < sl.length)
      · have hp' : ((0 : Int) < (sl.length : Int)) = False := eq_false (by have := of_decide_eq_false hp; omega)
        have hA2 := wiB_iff.1 hA
        obtain ⟨ja, rfl⟩ : ∃ ja : Nat, sa = (ja : Int) := ⟨sa.toNat, by omega⟩
        have hja : ja < W.length := by omega
        obtain ⟨bw, ow, rfl, hbw, va⟩ := HRW.out.int' hja
        have hB2 := wiB_iff.1 hB
        obtain ⟨jb, rfl⟩ : ∃ jb : Nat, sb = (jb : Int) := ⟨sb.toNat, by omega⟩
        have hjb : jb < W.length := by omega
        obtain ⟨bw', ow', e', -, vb⟩ := HRW.out.int' hjb
        injection e' with e'
        injection e' with q1 q2
        subst q1 q2
        have hu := hr W[ja] (List.getElem_mem hja)
        have hv := hr W[jb] (List.getElem_mem hjb)
        have HE : Hid (R = ofW ⟨5, ja, (jb : Int), sc, so, sv, sl⟩ W[ja] W[jb]) := hid (by
          rw [HR.out]
          have e1 : W.getD ja 0 = W[ja] := by rw [List.getD_eq_getElem?_getD, List.getElem?_eq_getElem hja]; rfl
          have e2 : W.getD jb 0 = W[jb] := by rw [List.getD_eq_getElem?_getD, List.getElem?_eq_getElem hjb]; rfl
          have e3 : badStep ⟨5, ja, (jb : Int), sc, so, sv, sl⟩ ((W.length : Int) - 1) = false := by simp [badStep, twoB, hA, hB, hp]
          unfold stW
          simp only [e3, Int.toNat_natCast, e1]
          rw [if_neg (by omega), if_neg (by simp)]
          rw [e2])
        generalize W[ja] = u at *
        generalize W[jb] = v at *
        have HOF := hid (fun w1 (hbb : Below w.heap.size w w1) => of_any' ⟨⟨5, ja, (jb : Int), sc, so, sv, sl⟩, sA, sK⟩ u v w1 (by omega) (by omega) (HL.out.step hbb) hll)
        simp only [SR.cells] at HOF
        rw [← HE.out] at HOF
        obtain ⟨W1, hW1⟩ : ∃ W1 : World, W1 = w.alloc (.cells #[.int .i64 5, .int .i64 (ja : Int), .int .i64 (jb : Int), .int .i64 sc, .int .i64 so, .int .i64 sv, .slice sA sl.length sK] 64) := ⟨_, rfl⟩
        have HX := hid (show Blk W1 w.heap.size #[.int .i64 5, .int .i64 (ja : Int), .int .i64 (jb : Int), .int .i64 sc, .int .i64 so, .int .i64 sv, .slice sA sl.length sK] 64 by rw [hW1]; exact Blk.new _ _ _)
        have HB1 := hid (show Below w.heap.size w W1 by rw [hW1]; (repeat' (first | (with_reducible exact Below.refl _ _) | (with_reducible assumption) | (with_reducible refine below_drewN ?_ _) | (with_reducible refine Below.drew ?_) | (with_reducible refine Below.alloc ?_ ?_ _) | (with_reducible refine Below.setCell ?_ ?_ _) | (refine Below.trans ?_ (Below.mono (by assumption) ?_)) | go_size)))
        have va' := ((bcell HB1.out).1 bw _ hbw).trans va
        have vb' := ((bcell HB1.out).1 bw _ hbw).trans vb
        have hbw' : bw < W1.heap.size := Nat.lt_of_lt_of_le hbw HB1.out.size
        have hjal : (ja : Int) < (W.length : Int) := by omega
        have hjbl : (jb : Int) < (W.length : Int) := by omega
        have h0l : (0 : Int) < (W.length : Int) := by omega
        clear va vb hbw HR HE hA2 hB2
        go_enter Tryd.func85, Tryd.ntmps85
        go_wp2_with (go_at_call 111; refine (qwithin_any _ _ _ _).mono ?_; rintro e w' ⟨rfl, rfl⟩)
        rw [← hW1]
        clear hW1
        obtain ⟨cHX, fHX, sHX, nHX⟩ := HX.out.all
        try simp only [cbox] at cHX
        refine region_ext (by kernel_rfl) (by kernel_rfl) (fun hext => ?_)
        repeat (any_goals ((with_reducible refine wpQuiet_step (fun K hK => ?_)); go_simp; first | (with_reducible refine hK _ ?_; clear hK K) | ((with_reducible apply Exists.intro); (with_reducible refine ⟨fun _ => ?_, hK _ ?_⟩); ((go_at_call 112; (with_reducible refine ext_call _ ?_ (HOF.out _ (Below.step' HB1.out (Ext.below _)))); simp)); clear hK K) | ((with_reducible refine (if_neg ?_).mpr (hK _ ?_)); (decide); clear hK K) | (split <;> (with_reducible refine hK _ ?_; clear hK K))))
        all_goals ((with_reducible refine wpQuiet_nil ?_); clear hext; intro w1 hx1; have hb1 := ext_below hx1; clear hx1)
        have HB2 := hid (Below.step' HB1.out hb1)
        clear hb1
        go_wp2
        go_ret
        exact ⟨rfl, HB2.out⟩
      · have hp' : ((0 : Int) < (sl.length : Int)) = True := eq_true (by have := of_decide_eq_true hp; omega)
        go_enter Tryd.func85, Tryd.ntmps85
        go_wp2_with (go_at_call 111; refine (qwithin_any _ _ _ _).mono ?_; rintro e w' ⟨rfl, rfl⟩)
        go_ret
        exact ⟨ret_int (by rw [HR.out]; simp [stW, tblB, badStep, twoB, hA, hB, hp]), by (repeat' (first | (with_reducible exact Below.refl _ _) | (with_reducible assumption) | (with_reducible refine below_drewN ?_ _) | (with_reducible refine Below.drew ?_) | (with_reducible refine Below.alloc ?_ ?_ _) | (with_reducible refine Below.setCell ?_ ?_ _) | (refine Below.trans ?_ (Below.mono (by assumption) ?_)) | go_size))⟩
set_option maxHeartbeats 1000000 in
set_option maxRecDepth 100000 in
theorem width_k6 (sa sb sc so sv : Int) (sl : List Int) (sA : Option Addr) (sK : Nat) (W : List Int) (WA : Option Addr) (Wc : Nat) (w : World) (hl : Row w w.heap.size sA (icells' sl)) (hll : sl.length ≤ 9223372036854775807) (hW : Row w w.heap.size WA (icells' W)) (hW8 : W.length ≤ 8) (hr : ∀ v ∈ W, 1 ≤ v ∧ v ≤ 8) :
    Calls Tryd.prog 85 #[.agg #[.int .i64 6, .int .i64 sa, .int .i64 sb, .int .i64 sc, .int .i64 so, .int .i64 sv, .slice sA sl.length sK], .slice WA W.length Wc] w fun e w' => e = .returned (.int .i64 (stW ⟨6, sa, sb, sc, so, sv, sl⟩ W)) ∧ Below w.heap.size w w' := by
  obtain ⟨R, hR⟩ : ∃ R, R = stW ⟨6, sa, sb, sc, so, sv, sl⟩ W := ⟨_, rfl⟩
  rw [← hR]
  have HR := hid hR
  clear hR
  have HL := hid hl
  have HRW := hid hW
  clear hl hW
  have hwl : IntKind.i64.wrap ((W.length : Int) - 1) = (W.length : Int) - 1 := IntWalk.i64_in _ (by omega)
  cases hA : wiB sa 0 ((W.length : Int) - 1)
  · go_enter Tryd.func85, Tryd.ntmps85
    go_wp2_with (go_at_call 111; refine (qwithin_any _ _ _ _).mono ?_; rintro e w' ⟨rfl, rfl⟩)
    go_ret
    exact ⟨ret_int (by rw [HR.out]; simp [stW, tblB, badStep, twoB, hA]), by (repeat' (first | (with_reducible exact Below.refl _ _) | (with_reducible assumption) | (with_reducible refine below_drewN ?_ _) | (with_reducible refine Below.drew ?_) | (with_reducible refine Below.alloc ?_ ?_ _) | (with_reducible refine Below.setCell ?_ ?_ _) | (refine Below.trans ?_ (Below.mono (by assumption) ?_)) | go_size))⟩
  · cases hB : wiB sb 0 ((W.length : Int) - 1)
    · go_enter Tryd.func85, Tryd.ntmps85
      go_wp2_with (go_at_call 111; refine (qwithin_any _ _ _ _).mono ?_; rintro e w' ⟨rfl, rfl⟩)
      go_ret
      exact ⟨ret_int (by rw [HR.out]; simp [stW, tblB, badStep, twoB, hA, hB]), by (repeat' (first | (with_reducible exact Below.refl _ _) | (with_reducible assumption) | (with_reducible refine below_drewN ?_ _) | (with_reducible refine Below.drew ?_) | (with_reducible refine Below.alloc ?_ ?_ _) | (with_reducible refine Below.setCell ?_ ?_ _) | (refine Below.trans ?_ (Below.mono (by assumption) ?_)) | go_size))⟩
    · cases hp : decide (0 < sl.length)
      · have hp' : ((0 : Int) < (sl.length : Int)) = False := eq_false (by have := of_decide_eq_false hp; omega)
        have hA2 := wiB_iff.1 hA
        obtain ⟨ja, rfl⟩ : ∃ ja : Nat, sa = (ja : Int) := ⟨sa.toNat, by omega⟩
        have hja : ja < W.length := by omega
        obtain ⟨bw, ow, rfl, hbw, va⟩ := HRW.out.int' hja
        have hB2 := wiB_iff.1 hB
        obtain ⟨jb, rfl⟩ : ∃ jb : Nat, sb = (jb : Int) := ⟨sb.toNat, by omega⟩
        have hjb : jb < W.length := by omega
        obtain ⟨bw', ow', e', -, vb⟩ := HRW.out.int' hjb
        injection e' with e'
        injection e' with q1 q2
        subst q1 q2
        have hu := hr W[ja] (List.getElem_mem hja)
        have hv := hr W[jb] (List.getElem_mem hjb)
        have HE : Hid (R = ofW ⟨6, ja, (jb : Int), sc, so, sv, sl⟩ W[ja] W[jb]) := hid (by
          rw [HR.out]
          have e1 : W.getD ja 0 = W[ja] := by rw [List.getD_eq_getElem?_getD, List.getElem?_eq_getElem hja]; rfl
          have e2 : W.getD jb 0 = W[jb] := by rw [List.getD_eq_getElem?_getD, List.getElem?_eq_getElem hjb]; rfl
          have e3 : badStep ⟨6, ja, (jb : Int), sc, so, sv, sl⟩ ((W.length : Int) - 1) = false := by simp [badStep, twoB, hA, hB, hp]
          unfold stW
          simp only [e3, Int.toNat_natCast, e1]
          rw [if_neg (by omega), if_neg (by simp)]
          rw [e2])
        generalize W[ja] = u at *
        generalize W[jb] = v at *
        have HOF := hid (fun w1 (hbb : Below w.heap.size w w1) => of_any' ⟨⟨6, ja, (jb : Int), sc, so, sv, sl⟩, sA, sK⟩ u v w1 (by omega) (by omega) (HL.out.step hbb) hll)
        simp only [SR.cells] at HOF
        rw [← HE.out] at HOF
        obtain ⟨W1, hW1⟩ : ∃ W1 : World, W1 = w.alloc (.cells #[.int .i64 6, .int .i64 (ja : Int), .int .i64 (jb : Int), .int .i64 sc, .int .i64 so, .int .i64 sv, .slice sA sl.length sK] 64) := ⟨_, rfl⟩
        have HX := hid (show Blk W1 w.heap.size #[.int .i64 6, .int .i64 (ja : Int), .int .i64 (jb : Int), .int .i64 sc, .int .i64 so, .int .i64 sv, .slice sA sl.length sK] 64 by rw [hW1]; exact Blk.new _ _ _)
        have HB1 := hid (show Below w.heap.size w W1 by rw [hW1]; (repeat' (first | (with_reducible exact Below.refl _ _) | (with_reducible assumption) | (with_reducible refine below_drewN ?_ _) | (with_reducible refine Below.drew ?_) | (with_reducible refine Below.alloc ?_ ?_ _) | (with_reducible refine Below.setCell ?_ ?_ _) | (refine Below.trans ?_ (Below.mono (by assumption) ?_)) | go_size)))
        have va' := ((bcell HB1.out).1 bw _ hbw).trans va
        have vb' := ((bcell HB1.out).1 bw _ hbw).trans vb
        have hbw' : bw < W1.heap.size := Nat.lt_of_lt_of_le hbw HB1.out.size
        have hjal : (ja : Int) < (W.length : Int) := by omega
        have hjbl : (jb : Int) < (W.length : Int) := by omega
        have h0l : (0 : Int) < (W.length : Int) := by omega
        clear va vb hbw HR HE hA2 hB2
        go_enter Tryd.func85, Tryd.ntmps85
        go_wp2_with (go_at_call 111; refine (qwithin_any _ _ _ _).mono ?_; rintro e w' ⟨rfl, rfl⟩)
        rw [← hW1]
        clear hW1
        obtain ⟨cHX, fHX, sHX, nHX⟩ := HX.out.all
        try simp only [cbox] at cHX
        refine region_ext (by kernel_rfl) (by kernel_rfl) (fun hext => ?_)
        repeat (any_goals ((with_reducible refine wpQuiet_step (fun K hK => ?_)); go_simp; first | (with_reducible refine hK _ ?_; clear hK K) | ((with_reducible apply Exists.intro); (with_reducible refine ⟨fun _ => ?_, hK _ ?_⟩); ((go_at_call 112; (with_reducible refine ext_call _ ?_ (HOF.out _ (Below.step' HB1.out (Ext.below _)))); simp)); clear hK K) | ((with_reducible refine (if_neg ?_).mpr (hK _ ?_)); (decide); clear hK K) | (split <;> (with_reducible refine hK _ ?_; clear hK K))))
        all_goals ((with_reducible refine wpQuiet_nil ?_); clear hext; intro w1 hx1; have hb1 := ext_below hx1; clear hx1)
        have HB2 := hid (Below.step' HB1.out hb1)
        clear hb1
        go_wp2
        go_ret
        exact ⟨rfl, HB2.out⟩
      · have hp' : ((0 : Int) < (sl.length : Int)) = True := eq_true (by have := of_decide_eq_true hp; omega)
        go_enter Tryd.func85, Tryd.ntmps85
        go_wp2_with (go_at_call 111; refine (qwithin_any _ _ _ _).mono ?_; rintro e w' ⟨rfl, rfl⟩)
        go_ret
        exact ⟨ret_int (by rw [HR.out]; simp [stW, tblB, badStep, twoB, hA, hB, hp]), by (repeat' (first | (with_reducible exact Below.refl _ _) | (with_reducible assumption) | (with_reducible refine below_drewN ?_ _) | (with_reducible refine Below.drew ?_) | (with_reducible refine Below.alloc ?_ ?_ _) | (with_reducible refine Below.setCell ?_ ?_ _) | (refine Below.trans ?_ (Below.mono (by assumption) ?_)) | go_size))⟩
set_option maxHeartbeats 1000000 in
set_option maxRecDepth 100000 in
theorem width_k0 (sk sa sb sc so sv : Int) (sl : List Int) (sA : Option Addr) (sK : Nat) (W : List Int) (WA : Option Addr) (Wc : Nat) (w : World) (hl : Row w w.heap.size sA (icells' sl)) (hll : sl.length ≤ 9223372036854775807) (hW : Row w w.heap.size WA (icells' W)) (hW8 : W.length ≤ 8) (hr : ∀ v ∈ W, 1 ≤ v ∧ v ≤ 8) (hk : sk ≠ 1 ∧ sk ≠ 3 ∧ sk ≠ 4 ∧ sk ≠ 5 ∧ sk ≠ 6) :
    Calls Tryd.prog 85 #[.agg #[.int .i64 sk, .int .i64 sa, .int .i64 sb, .int .i64 sc, .int .i64 so, .int .i64 sv, .slice sA sl.length sK], .slice WA W.length Wc] w fun e w' => e = .returned (.int .i64 (stW ⟨sk, sa, sb, sc, so, sv, sl⟩ W)) ∧ Below w.heap.size w w' := by
  obtain ⟨R, hR⟩ : ∃ R, R = stW ⟨sk, sa, sb, sc, so, sv, sl⟩ W := ⟨_, rfl⟩
  rw [← hR]
  have HR := hid hR
  clear hR
  have HL := hid hl
  have HRW := hid hW
  clear hl hW
  have hwl : IntKind.i64.wrap ((W.length : Int) - 1) = (W.length : Int) - 1 := IntWalk.i64_in _ (by omega)
  obtain ⟨k1, k3, k4, k5, k6⟩ := hk
  have e1 : (sk == 1) = false := by simpa using k1
  have e3 : (sk == 3) = false := by simpa using k3
  have e4 : (sk == 4) = false := by simpa using k4
  have e5 : (sk == 5) = false := by simpa using k5
  have e6 : (sk == 6) = false := by simpa using k6
  cases hA : wiB sa 0 ((W.length : Int) - 1)
  · go_enter Tryd.func85, Tryd.ntmps85
    go_wp2_with (go_at_call 111; refine (qwithin_any _ _ _ _).mono ?_; rintro e w' ⟨rfl, rfl⟩)
    go_ret
    exact ⟨ret_int (by rw [HR.out]; simp [stW, tblB, badStep, twoB, hA, k1, k3, k4, k5, k6]), by (repeat' (first | (with_reducible exact Below.refl _ _) | (with_reducible assumption) | (with_reducible refine below_drewN ?_ _) | (with_reducible refine Below.drew ?_) | (with_reducible refine Below.alloc ?_ ?_ _) | (with_reducible refine Below.setCell ?_ ?_ _) | (refine Below.trans ?_ (Below.mono (by assumption) ?_)) | go_size))⟩
  · cases hn : (sb != 0)
    · have hn' : (sb == 0) = true := by rw [Bool.eq_iff_iff]; simpa using hn
      cases hp : decide (0 < sl.length)
      · have hp' : ((0 : Int) < (sl.length : Int)) = False := eq_false (by have := of_decide_eq_false hp; omega)
        have hA2 := wiB_iff.1 hA
        obtain ⟨ja, rfl⟩ : ∃ ja : Nat, sa = (ja : Int) := ⟨sa.toNat, by omega⟩
        have hja : ja < W.length := by omega
        obtain ⟨bw, ow, rfl, hbw, va⟩ := HRW.out.int' hja
        obtain rfl : sb = 0 := by simpa using hn
        obtain ⟨jb, hjb0⟩ : ∃ jb : Nat, jb = 0 := ⟨0, rfl⟩
        have hjb : jb < W.length := by omega
        obtain ⟨bw', ow', e', -, vb⟩ := HRW.out.int' hjb
        injection e' with e'
        injection e' with q1 q2
        subst q1 q2
        subst hjb0
        simp only [Nat.add_zero] at vb
        have hu := hr W[ja] (List.getElem_mem hja)
        have hv := hr W[0] (List.getElem_mem hjb)
        have HE : Hid (R = ofW ⟨sk, ja, 0, sc, so, sv, sl⟩ W[ja] W[0]) := hid (by
          rw [HR.out]
          have e1 : W.getD ja 0 = W[ja] := by rw [List.getD_eq_getElem?_getD, List.getElem?_eq_getElem hja]; rfl
          have e2 : W.getD 0 0 = W[0] := by rw [List.getD_eq_getElem?_getD, List.getElem?_eq_getElem hjb]; rfl
          have e3 : badStep ⟨sk, ja, 0, sc, so, sv, sl⟩ ((W.length : Int) - 1) = false := by simp [badStep, twoB, hA, hn, hp, k1, k3, k4, k5, k6]
          unfold stW
          simp only [e3, Int.toNat_natCast, e1]
          rw [if_neg (by omega), if_neg (by simp)]
          rw [show ((0 : Int)).toNat = 0 from rfl, e2])
        generalize W[ja] = u at *
        generalize W[0] = v at *
        have HOF := hid (fun w1 (hbb : Below w.heap.size w w1) => of_any' ⟨⟨sk, ja, 0, sc, so, sv, sl⟩, sA, sK⟩ u v w1 (by omega) (by omega) (HL.out.step hbb) hll)
        simp only [SR.cells] at HOF
        rw [← HE.out] at HOF
        obtain ⟨W1, hW1⟩ : ∃ W1 : World, W1 = w.alloc (.cells #[.int .i64 sk, .int .i64 (ja : Int), .int .i64 0, .int .i64 sc, .int .i64 so, .int .i64 sv, .slice sA sl.length sK] 64) := ⟨_, rfl⟩
        have HX := hid (show Blk W1 w.heap.size #[.int .i64 sk, .int .i64 (ja : Int), .int .i64 0, .int .i64 sc, .int .i64 so, .int .i64 sv, .slice sA sl.length sK] 64 by rw [hW1]; exact Blk.new _ _ _)
        have HB1 := hid (show Below w.heap.size w W1 by rw [hW1]; (repeat' (first | (with_reducible exact Below.refl _ _) | (with_reducible assumption) | (with_reducible refine below_drewN ?_ _) | (with_reducible refine Below.drew ?_) | (with_reducible refine Below.alloc ?_ ?_ _) | (with_reducible refine Below.setCell ?_ ?_ _) | (refine Below.trans ?_ (Below.mono (by assumption) ?_)) | go_size)))
        have va' := ((bcell HB1.out).1 bw _ hbw).trans va
        have vb' := ((bcell HB1.out).1 bw _ hbw).trans vb
        have hbw' : bw < W1.heap.size := Nat.lt_of_lt_of_le hbw HB1.out.size
        have hjal : (ja : Int) < (W.length : Int) := by omega
        have h0l : (0 : Int) < (W.length : Int) := by omega
        clear va vb hbw HR HE hA2
        go_enter Tryd.func85, Tryd.ntmps85
        go_wp2_with (go_at_call 111; refine (qwithin_any _ _ _ _).mono ?_; rintro e w' ⟨rfl, rfl⟩)
        rw [← hW1]
        clear hW1
        obtain ⟨cHX, fHX, sHX, nHX⟩ := HX.out.all
        try simp only [cbox] at cHX
        refine region_ext (by kernel_rfl) (by kernel_rfl) (fun hext => ?_)
        repeat (any_goals ((with_reducible refine wpQuiet_step (fun K hK => ?_)); go_simp; first | (with_reducible refine hK _ ?_; clear hK K) | ((with_reducible apply Exists.intro); (with_reducible refine ⟨fun _ => ?_, hK _ ?_⟩); ((go_at_call 112; (with_reducible refine ext_call _ ?_ (HOF.out _ (Below.step' HB1.out (Ext.below _)))); simp)); clear hK K) | ((with_reducible refine (if_neg ?_).mpr (hK _ ?_)); (decide); clear hK K) | (split <;> (with_reducible refine hK _ ?_; clear hK K))))
        all_goals ((with_reducible refine wpQuiet_nil ?_); clear hext; intro w1 hx1; have hb1 := ext_below hx1; clear hx1)
        have HB2 := hid (Below.step' HB1.out hb1)
        clear hb1
        go_wp2
        go_ret
        exact ⟨rfl, HB2.out⟩
      · have hp' : ((0 : Int) < (sl.length : Int)) = True := eq_true (by have := of_decide_eq_true hp; omega)
        go_enter Tryd.func85, Tryd.ntmps85
        go_wp2_with (go_at_call 111; refine (qwithin_any _ _ _ _).mono ?_; rintro e w' ⟨rfl, rfl⟩)
        go_ret
        exact ⟨ret_int (by rw [HR.out]; simp [stW, tblB, badStep, twoB, hA, hn, hp, k1, k3, k4, k5, k6]), by (repeat' (first | (with_reducible exact Below.refl _ _) | (with_reducible assumption) | (with_reducible refine below_drewN ?_ _) | (with_reducible refine Below.drew ?_) | (with_reducible refine Below.alloc ?_ ?_ _) | (with_reducible refine Below.setCell ?_ ?_ _) | (refine Below.trans ?_ (Below.mono (by assumption) ?_)) | go_size))⟩
    · have hn' : (sb == 0) = false := by rw [Bool.eq_false_iff]; simpa using hn
      go_enter Tryd.func85, Tryd.ntmps85
      go_wp2_with (go_at_call 111; refine (qwithin_any _ _ _ _).mono ?_; rintro e w' ⟨rfl, rfl⟩)
      go_ret
      exact ⟨ret_int (by rw [HR.out]; simp [stW, tblB, badStep, twoB, hA, hn, k1, k3, k4, k5, k6]), by (repeat' (first | (with_reducible exact Below.refl _ _) | (with_reducible assumption) | (with_reducible refine below_drewN ?_ _) | (with_reducible refine Below.drew ?_) | (with_reducible refine Below.alloc ?_ ?_ _) | (with_reducible refine Below.setCell ?_ ?_ _) | (refine Below.trans ?_ (Below.mono (by assumption) ?_)) | go_size))⟩

/-- query.width tells a step's width by those ahead. -/
theorem width_any' (x : SR) (W : List Int) (WA : Option Addr) (Wc : Nat) (w : World) (hl : Row w w.heap.size x.A (icells' x.st.list)) (hll : x.st.list.length ≤ 9223372036854775807) (hW : Row w w.heap.size WA (icells' W)) (hW8 : W.length ≤ 8) (hr : ∀ v ∈ W, 1 ≤ v ∧ v ≤ 8) :
    Calls Tryd.prog 85 #[.agg x.cells.toArray, .slice WA W.length Wc] w fun e w' => e = .returned (.int .i64 (stW x.st W)) ∧ Below w.heap.size w w' := by
  obtain ⟨⟨sk, sa, sb, sc, so, sv, sl⟩, sA, sK⟩ := x
  simp only at hl hll
  by_cases k1 : sk = 1
  · subst k1; exact width_k1 sa sb sc so sv sl sA sK W WA Wc w hl hll hW hW8 hr
  by_cases k3 : sk = 3
  · subst k3; exact width_k3 sa sb sc so sv sl sA sK W WA Wc w hl hll hW hW8 hr
  by_cases k4 : sk = 4
  · subst k4; exact width_k4 sa sb sc so sv sl sA sK W WA Wc w hl hll hW hW8 hr
  by_cases k5 : sk = 5
  · subst k5; exact width_k5 sa sb sc so sv sl sA sK W WA Wc w hl hll hW hW8 hr
  by_cases k6 : sk = 6
  · subst k6; exact width_k6 sa sb sc so sv sl sA sK W WA Wc w hl hll hW hW8 hr
  exact width_k0 sk sa sb sc so sv sl sA sK W WA Wc w hl hll hW hW8 hr ⟨k1, k3, k4, k5, k6⟩
end Go.Proofs.YtldlmkfigjicgaaDoor
/- zset.Norm, Add; what a right set is. -/
namespace Go.Proofs.YtldlmkfigjicgaaDoor
set_option linter.unusedVariables false
set_option linter.unusedSimpArgs false
open Go.ChangeShapes Go.WideShapes Go.ChangeAt Go.RowKit


/-- Sum, Done: over lists that lie where they lay. -/
theorem lens_of {M : List IR} (h : ∀ x ∈ its M, badB x = false) : ∀ x ∈ M, x.row.length ≤ 1048576 := fun x hx => by
  have := badB_false (h x.it (List.mem_map.2 ⟨x, hx, rfl⟩))
  simp only [IR.it] at this
  omega

end Go.Proofs.YtldlmkfigjicgaaDoor
/- zset.Add, Neg. -/
namespace Go.Proofs.YtldlmkfigjicgaaDoor
set_option linter.unusedVariables false
set_option linter.unusedSimpArgs false
open Go.ChangeShapes Go.WideShapes Go.ChangeAt Go.RowKit

theorem lens_set {M : List IR} (h : setI (its M) = 0) : ∀ x ∈ M, x.row.length ≤ 1048576 := lens_of (setI_zero.1 h).2.1
theorem len_set {M : List IR} (h : setI (its M) = 0) : M.length ≤ 400 := by have := (setI_zero.1 h).1; rwa [its_len] at this

set_option maxHeartbeats 2000000 in
set_option maxRecDepth 100000 in
theorem add_any (M1 M2 : List IR) (A1 A2 : Option Addr) (c1 c2 : Nat) (w : World) (hr1 : RowI w w.heap.size A1 M1) (hl1 : M1.length ≤ 9223372036854775807) (hr2 : RowI w w.heap.size A2 M2) (hl2 : M2.length ≤ 9223372036854775807) :
    Calls Tryd.prog 14 #[.slice A1 M1.length c1, .slice A2 M2.length c2] w (ItsErr (addX (its M1) (its M2)) (addE (its M1) (its M2)) w) := by
  have HK1 := hid (fun w1 (hb : Below w.heap.size w w1) => zcheck_any M1 A1 c1 w1 (hr1.step hb) hl1)
  have HK2 := hid (fun w1 (hb : Below w.heap.size w w1) => zcheck_any M2 A2 c2 w1 (hr2.step hb) hl2)
  have HR1 := hid hr1
  have HR2 := hid hr2
  clear hr1 hr2
  have HE := hid (show addE (its M1) (its M2) = if setI (its M1) ≠ 0 then setI (its M1) else if setI (its M2) ≠ 0 then setI (its M2) else doneE (sumL (its M1 ++ its M2)) from rfl)
  have HX := hid (show addX (its M1) (its M2) = if addE (its M1) (its M2) = 0 then sumL (its M1 ++ its M2) else [] from rfl)
  have HL1 : Hid (setI (its M1) = 0 → M1.length ≤ 400 ∧ ∀ x ∈ M1, x.row.length ≤ 1048576) := hid fun h => ⟨len_set h, lens_set h⟩
  have HL2 : Hid (setI (its M2) = 0 → M2.length ≤ 400 ∧ ∀ x ∈ M2, x.row.length ≤ 1048576) := hid fun h => ⟨len_set h, lens_set h⟩
  obtain ⟨E, hE⟩ : ∃ E, E = addE (its M1) (its M2) := ⟨_, rfl⟩
  rw [← hE] at HE HX ⊢
  clear hE
  obtain ⟨X, hX⟩ : ∃ X, X = addX (its M1) (its M2) := ⟨_, rfl⟩
  rw [← hX] at HX ⊢
  clear hX
  obtain ⟨E1, hE1⟩ : ∃ q, q = setI (its M1) := ⟨_, rfl⟩
  obtain ⟨E2, hE2⟩ : ∃ q, q = setI (its M2) := ⟨_, rfl⟩
  rw [← hE1] at HE HK1 HL1
  rw [← hE2] at HE HK2 HL2
  clear hE1 hE2
  go_enter Tryd.func14, Tryd.ntmps14
  go_wp2_with fail
  obtain ⟨W, hW⟩ : ∃ W : World, W = w.alloc (.cells #[.slice A1 M1.length c1, .slice A2 M2.length c2] 22) := ⟨_, rfl⟩
  have HXA := hid (show Blk W w.heap.size #[.slice A1 M1.length c1, .slice A2 M2.length c2] 22 by rw [hW]; exact Blk.new _ _ _)
  have HBW := hid (show Below w.heap.size w W by rw [hW]; exact alloc_below (Below.refl _ _) _)
  -- STOP-a
  rw [← hW]
  clear hW
  obtain ⟨cHXA, fHXA, sHXA, nHXA⟩ := HXA.out.all
  try simp only [cbox] at cHXA
  refine wp_loop_rounds 3 ?_
  rw [rounds_succ]
  by_cases q1 : E1 = 0
  rotate_left
  · have t1 : (E1 != 0) = true := by simpa using q1
    have HD : Hid (E = E1) := hid (by rw [HE.out, if_pos q1])
    have HQ := hid q1
    clear q1
    go_wp2_with (go_at_call 20; refine (HK1.out _ HBW.out).mono ?_; rintro e w1 ⟨rfl, hb1⟩)
    go_ret2
    exact itsErr_nil' (by rw [HX.out, HD.out, if_neg HQ.out]) HD.out (Below.step' HBW.out hb1)
  · subst q1
    go_wp2_with fail
    refine (HK1.out _ HBW.out).mono ?_
    rintro e w1 ⟨rfl, hb1⟩
    clear cHXA fHXA sHXA nHXA
    replace HXA := hid (HXA.out.step hb1)
    replace HBW := hid (Below.step' HBW.out hb1)
    clear hb1
    obtain ⟨cHXA, fHXA, sHXA, nHXA⟩ := HXA.out.all
    try simp only [cbox] at cHXA
    go_wp2_with fail
    rw [rounds_succ]
    by_cases q2 : E2 = 0
    rotate_left
    · have t1 : (E2 != 0) = true := by simpa using q2
      have HD : Hid (E = E2) := hid (by rw [HE.out, if_neg (by simp), if_pos q2])
      have HQ := hid q2
      clear q2
      go_wp2_with (go_at_call 20; refine (HK2.out _ HBW.out).mono ?_; rintro e w2 ⟨rfl, hb2⟩)
      go_ret2
      exact itsErr_nil' (by rw [HX.out, HD.out, if_neg HQ.out]) HD.out (Below.step' HBW.out hb2)
    · subst q2
      have HD : Hid (E = doneE (sumL (its M1 ++ its M2))) := hid (by rw [HE.out, if_neg (by simp), if_neg (by simp)])
      obtain ⟨l1, n1⟩ := HL1.out (by first | rfl | trivial)
      obtain ⟨l2, n2⟩ := HL2.out (by first | rfl | trivial)
      have HN1 := hid n1
      have HN2 := hid n2
      clear n1 n2 HL1 HL2
      go_wp2_with fail
      refine (HK2.out _ HBW.out).mono ?_
      rintro e w2 ⟨rfl, hb2⟩
      clear cHXA fHXA sHXA nHXA
      replace HBW := hid (Below.step' HBW.out hb2)
      clear hb2 HXA
      have HSM : Hid (∀ w3, Below w2.heap.size w2 w3 → ∀ A3, Row w3 w3.heap.size A3 [.slice A1 M1.length c1, .slice A2 M2.length c2] → Calls Tryd.prog 38 #[.slice A3 2 2] w3 (ItsPost (sumL (its M1 ++ its M2)) w3)) := hid (fun w3 hb A3 h => by
        have := sum_any [⟨M1, A1, c1⟩, ⟨M2, A2, c2⟩] A3 2 w3 (by simpa using h) (fun x hx => by
          simp only [List.mem_cons, List.not_mem_nil, or_false] at hx
          rcases hx with rfl | rfl
          · exact HR1.out.step (Below.step' HBW.out hb)
          · exact HR2.out.step (Below.step' HBW.out hb)) (by simp; omega) (by simp) (fun x hx => by
          simp only [lrs, List.flatMap_cons, List.flatMap_nil, List.append_nil, List.mem_append] at hx
          rcases hx with hx | hx
          · exact HN1.out x hx
          · exact HN2.out x hx)
        simpa using this)
      go_wp2_with fail
      rw [rounds_succ]
      go_wp2_with fail
      -- STOP-b
      refine (HSM.out _ (alloc_below (Below.refl _ _) _) _ (Row.new' _ _ _ rfl rfl (by simp))).mono ?_
      rintro e w3 ⟨A3, k3, M3, rfl, hits, hown, hnew, hb3⟩
      have hB3 : Below w2.heap.size w2 w3 := (by refine Below.step' ?_ hb3; (repeat' (first | (with_reducible exact Below.refl _ _) | (with_reducible assumption) | (with_reducible refine below_drewN ?_ _) | (with_reducible refine Below.drew ?_) | (with_reducible refine Below.alloc ?_ ?_ _) | (with_reducible refine Below.setCell ?_ ?_ _) | (refine Below.trans ?_ (Below.mono (by assumption) ?_)) | go_size)))
      have HIT := hid hits
      have HOW := hid (own_baseS hown (show w.heap.size ≤ _ by have := HBW.out.size; simp; omega))
      have HNW : Hid (RowsNew w3 w.heap.size (.slice A3 M3.length k3) M3) := hid (fun x hx => by
        obtain ⟨q1, q2, q3, q4⟩ := hnew x hx
        exact ⟨q1, newAt_le q2 (by have := HBW.out.size; simp; omega), q3, q4⟩)
      have HB2 := hid (Below.step' HBW.out hB3)
      have hlM : M3.length ≤ 9223372036854775807 := by
        have := sumL_len (its M1 ++ its M2)
        rw [← hits, its_len, List.length_append, its_len, its_len] at this
        omega
      have hdn := done_any M3 A3 k3 w3 (Row.of_ownS hown) hnew.rows hlM
      rw [hits, ← HD.out] at hdn
      have HDN := hid hdn
      clear hits hown hnew hb3 hB3 hdn hlM HSM
      go_wp2_with fail
      refine HDN.out.mono ?_
      rintro e w4 ⟨rfl, hb4⟩
      have HB4 := hid hb4
      clear hb4 HDN
      by_cases hz : E = 0
      · have HZ := hid hz
        rw [if_pos hz]
        clear hz
        go_wp2
        go_ret2
        exact ⟨A3, k3, M3, rfl, by rw [HIT.out, HX.out, if_pos HZ.out], own_laterS HOW.out HB4.out, HNW.out.step HB4.out, Below.step' HB2.out HB4.out⟩
      · have HZ := hid hz
        rw [if_neg hz]
        clear hz
        go_wp2
        go_ret2
        exact itsErr_nil' (by rw [HX.out, if_neg HZ.out]) rfl (Below.step' HB2.out HB4.out)

theorem keepA {B b : Nat} {W w : World} {o : Obj} (hb : b < w.heap.size) (hB : B ≤ w.heap.size) (h : ∀ o, w.cell? ⟨b, o, none⟩ = W.cell? ⟨b, o, none⟩) (h2 : Below B W w) : (∀ x, (w.alloc o).cell? ⟨b, x, none⟩ = W.cell? ⟨b, x, none⟩) ∧ Below B W (w.alloc o) :=
  ⟨fun x => ((bcell ((Below.refl w.heap.size w).alloc (Nat.le_refl _) o)).1 b x hb).trans (h x), h2.alloc hB o⟩
theorem keepG {w w' : World} {r : Option Nat} (hg : w.grownBy w' r) {b : Nat} (hb : b < w.heap.size) (hr : some b = r → False) (o : Nat) : w'.cell? ⟨b, o, none⟩ = w.cell? ⟨b, o, none⟩ :=
  World.cell?_of_block (w := w) (hg.block b hb hr)

end Go.Proofs.YtldlmkfigjicgaaDoor
/- query.widths, query.Check. -/
namespace Go.Proofs.YtldlmkfigjicgaaDoor
set_option linter.unusedVariables false
set_option linter.unusedSimpArgs false
open Go.ChangeShapes Go.WideShapes Go.ChangeAt Go.RowKit

theorem info_intQ : (Tryd.prog.info? 3).map (fun i => (i.zero, i.size, i.bytes)) = some (some (.int .i64 0), 1, 8) := by kernel_rfl
theorem icellsQ_snoc (l : List Int) (x : Int) : icells' (l ++ [x]) = icells' l ++ icells' [x] := by simp
theorem icellsQ_one (l : List Int) : ∀ u ∈ icells' l, u.oneCell' = true := by
  intro u hu
  obtain ⟨x, -, rfl⟩ := List.mem_map.1 hu
  rfl
theorem widsL_drop {L : List St} {i : Nat} (h : i < L.length) (V : List Int) : widsL (L.drop i) V = if stW L[i] V = 0 then none else widsL (L.drop (i + 1)) (V ++ [stW L[i] V]) := by
  rw [List.drop_eq_getElem_cons h, widsL]

/-- Widths of a call's own making, and an error. -/
def WidsPost (V : List Int) (x : Int) (w : World) (e : Ending) (w' : World) : Prop :=
  ∃ v, e = .returned (.tuple #[v, .int .i64 x]) ∧ w'.ownsRow w.heap.size 3 1 v V.length (icells' V) ∧ Below w.heap.size w w'
theorem widsPost_mk {V V' : List Int} {E x : Int} {w w' : World} {v : Value} (hx : E = x) (hV : V = V') (ho : w'.ownsRow w.heap.size 3 1 v V'.length (icells' V')) (hb : Below w.heap.size w w') : WidsPost V E w (.returned (.tuple #[v, .int .i64 x])) w' := by
  subst hx hV; exact ⟨v, rfl, ho, hb⟩

set_option maxHeartbeats 1000000 in
set_option maxRecDepth 100000 in
theorem widths_any (L : List SR) (A : Option Addr) (c : Nat) (w : World) (hr : RowS w w.heap.size A L) (hl : L.length ≤ 9223372036854775807) :
    Calls Tryd.prog 62 #[.slice A L.length c] w (WidsPost (queryW (sts L)) (queryE (sts L)) w) := by
  have HR := hid hr
  have HW := hid (show queryW (sts L) = if queryE (sts L) = 0 then (widsL (sts L) []).getD [] else [] from rfl)
  have HE := hid (show queryE (sts L) = if (sts L).length = 0 then 1 else if 8 < (sts L).length then 2 else if widsL (sts L) [] = none then 1 else 0 from rfl)
  obtain ⟨E, hE⟩ : ∃ q, q = queryE (sts L) := ⟨_, rfl⟩
  obtain ⟨X, hX⟩ : ∃ q, q = queryW (sts L) := ⟨_, rfl⟩
  rw [← hE, ← hX] at HW ⊢
  rw [← hE] at HE
  have hsl : (sts L).length = L.length := List.length_map ..
  rw [hsl] at HE
  obtain ⟨i1, hi0, hz0, hz1, hz2⟩ := info_parts info_intQ
  clear hE hX hr hsl
  have HN := hid (fun h : E ≠ 0 => show X = [] by rw [HW.out, if_neg h])
  by_cases h0 : L.length = 0
  · have t0 : ((L.length : Int) == 0) = true := by rw [h0]; rfl
    have HE1 := hid (show E = 1 by rw [HE.out, if_pos h0])
    clear h0
    go_enter Tryd.func62, Tryd.ntmps62
    go_wp2_with fail
    go_ret2
    exact widsPost_mk HE1.out (HN.out (by rw [HE1.out]; decide)) (World.ownsRow_nil _ _ _ _) (Below.refl _ _)
  have t0 : ((L.length : Int) == 0) = false := beq_eq_false_iff_ne.2 (by omega)
  by_cases h8 : 8 < L.length
  · have t8 : ((8 : Int) < (L.length : Int)) = True := eq_true (by omega)
    have HE1 := hid (show E = 2 by rw [HE.out, if_neg h0, if_pos h8])
    clear h0 h8
    go_enter Tryd.func62, Tryd.ntmps62
    go_wp2_with fail
    go_ret2
    exact widsPost_mk HE1.out (HN.out (by rw [HE1.out]; decide)) (World.ownsRow_nil _ _ _ _) (Below.refl _ _)
  have t8 : ((8 : Int) < (L.length : Int)) = False := eq_false (by omega)
  replace HE : Hid (E = if widsL (sts L) [] = none then 1 else 0) := hid (by rw [HE.out, if_neg h0, if_neg h8])
  have hl8 : L.length ≤ 8 := by omega
  clear h0 h8
  go_enter Tryd.func62, Tryd.ntmps62
  go_wp2_with fail
  -- STOP-a
  go_loopw [4, 18] (fun s4 s18 wr => ∃ (i : Nat) (V : List Int), i ≤ L.length ∧ s18 = .int .i64 i ∧ V.length = i ∧ Hid (widsL (sts L) [] = widsL ((sts L).drop i) V) ∧ Hid (∀ v ∈ V, 1 ≤ v ∧ v ≤ 8) ∧ Hid (wr.ownsRow w.heap.size 3 1 s4 V.length (icells' V)) ∧ Hid (Below w.heap.size w wr)) (fun _ s18 _ => L.length - (intOf s18).toNat)
  case atStart => exact ⟨0, [], by omega, rfl, rfl, hid rfl, hid (by simp), hid (World.ownsRow_nil _ _ _ _), hid (Below.refl _ _)⟩
  case round =>
    obtain ⟨i, V, hi, rfl, hVl, HWD, HVR, HOWN, HB⟩ := hrel
    obtain ⟨A4, c4, rfl⟩ := own_formS HOWN.out
    have HVL := hid hVl
    have hs := HB.out.size
    have hV8 : V.length ≤ 8 := by omega
    clear hVl
    by_cases hlt : i < L.length
    · obtain ⟨b, off, rfl, hb, e0, e1, e2, e3, e4, e5, e6⟩ := (HR.out.1.step HB.out).sr hlt
      obtain ⟨xl, xll⟩ := (HR.out.2.step HB.out) L[i] (List.getElem_mem hlt)
      have hil : i < (sts L).length := by rw [sts, List.length_map]; exact hlt
      have HSD := hid (show widsL (sts L) [] = if stW L[i].st V = 0 then none else widsL ((sts L).drop (i + 1)) (V ++ [stW L[i].st V]) by
        rw [HWD.out, widsL_drop hil]; simp [sts])
      have HWI := hid (fun w1 (hbb : Below wr.heap.size wr w1) => width_any' L[i] V A4 c4 w1 (xl.step hbb) xll ((Row.of_ownS HOWN.out).step hbb) hV8 HVR.out)
      have HSR := hid (fun h : stW L[i].st V ≠ 0 => stW_range HVR.out h)
      generalize L[i] = x at *
      obtain ⟨⟨sk, sa, sb, sc, so, sv, sl⟩, sA, sK⟩ := x
      simp only [SR.cells] at e0 e1 e2 e3 e4 e5 e6 HWI HSD HSR
      obtain ⟨n, hn⟩ : ∃ n, n = stW ⟨sk, sa, sb, sc, so, sv, sl⟩ V := ⟨_, rfl⟩
      rw [← hn] at HWI HSD HSR
      have hne : (b = wr.heap.size) = False := by simp; omega
      clear hn xl xll hil
      obtain ⟨wo, rfl⟩ : ∃ wx : World, wx = wr := ⟨_, rfl⟩
      by_cases q0 : n = 0
      · subst q0
        have HE1 := hid (show E = 1 by rw [HE.out, HSD.out, if_pos rfl, if_pos rfl])
        go_wp2_with fail
        -- STOP-b
        refine (HWI.out _ (by exact (Below.refl _ _).alloc (Nat.le_refl _) _)).mono ?_
        rintro e w1 ⟨rfl, hb1⟩
        have hB1 : Below wo.heap.size wo w1 := (by refine Below.step' ?_ hb1; (repeat' (first | (with_reducible exact Below.refl _ _) | (with_reducible assumption) | (with_reducible refine below_drewN ?_ _) | (with_reducible refine Below.drew ?_) | (with_reducible refine Below.alloc ?_ ?_ _) | (with_reducible refine Below.setCell ?_ ?_ _) | (refine Below.trans ?_ (Below.mono (by assumption) ?_)) | go_size)))
        have HB1 := hid hB1
        clear hb1 hB1
        go_wp2_with fail
        go_ret2
        exact widsPost_mk HE1.out (HN.out (by rw [HE1.out]; decide)) (World.ownsRow_nil _ _ _ _) (Below.step' HB.out HB1.out)
      · have t1 : (n == 0) = false := beq_eq_false_iff_ne.2 q0
        have HSN := hid (show widsL (sts L) [] = widsL ((sts L).drop (i + 1)) (V ++ [n]) by rw [HSD.out, if_neg q0])
        have HNR := hid (HSR.out q0)
        clear q0
        go_wp2_with fail
        -- STOP-c
        refine (HWI.out _ (by exact (Below.refl _ _).alloc (Nat.le_refl _) _)).mono ?_
        rintro e w1 ⟨rfl, hb1⟩
        have hB1 : Below wo.heap.size wo w1 := (by refine Below.step' ?_ hb1; (repeat' (first | (with_reducible exact Below.refl _ _) | (with_reducible assumption) | (with_reducible refine below_drewN ?_ _) | (with_reducible refine Below.drew ?_) | (with_reducible refine Below.alloc ?_ ?_ _) | (with_reducible refine Below.setCell ?_ ?_ _) | (refine Below.trans ?_ (Below.mono (by assumption) ?_)) | go_size)))
        have HB1 := hid hB1
        have hs1 := hB1.size
        have HO1 := hid (own_laterS HOWN.out hB1)
        clear hb1 hB1
        go_wp2_with (at_builtin; refine wpList_append_own _ rfl _ _ 23 rfl w.heap.size 3 i1 _ 1 8 Tryd.underlying23 hi0 hz0 hz1 hz2 rfl (by decide) _ _ _ rfl (HO1.out.alloc _) ⟨w1.heap.size, 0, none⟩ 1 1 (icells' [n]) rfl rfl (news_at _ [.int .i64 n] _ _ rfl) (icellsQ_one _) ?_ ?_ ?_ ?_; rotate_right; intro v6 w6 hown6 hg6 _; rotate_left; (simp only [maxLen]; omega); (omega); (simp; omega))
        -- STOP-d
        have HOW6 := hid hown6
        have HG6 := hid hg6
        clear hown6 hg6
        go_roundw
        case rel =>
          refine ⟨i + 1, V ++ [n], by omega, by go_num, by have := HVL.out; simp; omega, HSN, hid (fun v hv => ?_), hid ?_, hid (Below.grown (alloc_below (Below.step' HB.out HB1.out) _) HG6.out (by simp; omega) (fun g e => (HO1.out.lt g e).1))⟩
          · rcases List.mem_append.1 hv with q | q
            · exact HVR.out v q
            · rw [List.mem_singleton.1 q]; exact HNR.out
          · rw [icellsQ_snoc, List.length_append]
            simpa using HOW6.out
        case measure => simp [intOf]; omega
    · have hik : i = L.length := by omega
      have hdr : (sts L).drop i = [] := List.drop_eq_nil_of_le (by rw [sts, List.length_map]; omega)
      have HE0 := hid (show E = 0 by rw [HE.out, HWD.out, hdr, widsL, if_neg (by simp)])
      have HX0 := hid (show X = V by rw [HW.out, if_pos HE0.out, HWD.out, hdr, widsL]; rfl)
      clear hdr
      subst hik
      go_wp2_with fail
      -- STOP-e
      go_ret2
      exact widsPost_mk HE0.out HX0.out HOWN.out HB.out

set_option maxRecDepth 100000 in
theorem qcheck_any (L : List SR) (A : Option Addr) (c : Nat) (w : World) (hr : RowS w w.heap.size A L) (hl : L.length ≤ 9223372036854775807) :
    Calls Tryd.prog 35 #[.slice A L.length c] w fun e w' => e = .returned (.int .i64 (queryE (sts L))) ∧ Below w.heap.size w w' := by
  have HW := hid (widths_any L A c w hr hl)
  obtain ⟨E, hE⟩ : ∃ q, q = queryE (sts L) := ⟨_, rfl⟩
  rw [← hE] at HW ⊢
  clear hE hr
  go_enter Tryd.func35, Tryd.ntmps35
  go_wp2_with fail
  refine HW.out.mono ?_
  rintro e w1 ⟨v, rfl, -, hb1⟩
  have HB := hid hb1
  clear hb1
  go_wp2_with fail
  go_ret
  exact ⟨rfl, HB.out⟩
end Go.Proofs.YtldlmkfigjicgaaDoor
/- rank.order: the comparison by columns; slices.SortFunc at items by it. -/
namespace Go.Proofs.YtldlmkfigjicgaaDoor
set_option linter.unusedVariables false
set_option linter.unusedSimpArgs false
open Go.ChangeShapes Go.WideShapes Go.ChangeAt Go.RowKit Go.Shelf Go.Lib Go.Sort

/-- A world that is another one, with more memory and more drawn. -/
def Grew (w w' : World) : Prop := ∃ q os, w' = grow (w.drewN q) os
theorem Grew.alloc {w w' : World} (h : Grew w w') (o : Obj) : Grew w (w'.alloc o) := by
  obtain ⟨q, os, rfl⟩ := h
  exact ⟨q, os ++ #[o], by rw [alloc_eq_grow, grow_grow]⟩
theorem Grew.drewN {w w' : World} (h : Grew w w') (n : Nat) : Grew w (w'.drewN n) := by
  obtain ⟨q, os, rfl⟩ := h
  exact ⟨q + n, os, by simp [grow, World.drewN, Nat.add_assoc]⟩
theorem Grew.refl (w : World) : Grew w w := ⟨0, #[], by simp [grow, World.drewN]⟩
theorem Grew.below {w w' : World} (h : Grew w w') : Below w.heap.size w w' := by
  obtain ⟨q, os, rfl⟩ := h
  refine ⟨rfl, rfl, rfl, by simp [grow, World.drewN], fun k hk => ?_⟩
  simp [grow, World.drewN, Array.getElem?_append, hk]

/-- The numbers of an order fit rows of so many columns. -/
def ByOk (n : Nat) (bs : List Int) : Prop := ∀ k ∈ bs, k ≠ 0 ∧ -(n : Int) ≤ k ∧ k ≤ n

set_option maxHeartbeats 1000000 in
set_option maxRecDepth 100000 in
theorem order1_any (bs : List Int) (bA : Option Addr) (bc : Nat) (g : Nat) (x y : IR) (w : World) (hb : Row w w.heap.size bA (icells' bs)) (hbl : bs.length ≤ 9223372036854775807) (hc : Caught w ⟨g, 0, none⟩ (.slice bA bs.length bc))
    (hx : Row w w.heap.size x.A (icells' x.row)) (hxl : x.row.length ≤ 9223372036854775807) (hy : Row w w.heap.size y.A (icells' y.row)) (hyx : y.row.length = x.row.length) (hok : ByOk x.row.length bs) :
    Calls Tryd.prog 56 #[.agg x.cells.toArray, .agg y.cells.toArray, .pointer (some ⟨g, 0, none⟩)] w fun e w' => e = .returned (.int .i64 (cmpBy bs x.row y.row)) ∧ Grew w w' := by
  obtain ⟨xr, xA, xk, xn⟩ := x
  obtain ⟨yr, yA, yk, yn⟩ := y
  simp only at hx hxl hy hyx hok ⊢
  have HRX := hid hx
  have HRY := hid hy
  have HRB := hid hb
  have HCA := hid hc
  have HOK := hid hok
  have HLL := hid hyx
  have HCO := hid (fun w1 (hb : Below w.heap.size w w1) => orderL_any xr yr xA yA xk yk w1 (hx.step hb) (hy.step hb) hxl (by omega))
  have hyl : yr.length ≤ 9223372036854775807 := by omega
  obtain ⟨R, hR⟩ : ∃ R, R = cmpBy bs xr yr := ⟨_, rfl⟩
  rw [← hR]
  have HR0 : Hid (R = cmpBy (bs.drop 0) xr yr) := hid hR
  have hgl := hc.2
  simp only at hgl
  have hg0 := hc.1
  have hne1 : (g = w.heap.size) = False := by simp; omega
  have hne2 : (g = w.heap.size + 1) = False := by simp; omega
  clear hx hy hb hc hok hR hyx
  simp only [IR.cells]
  go_enter Tryd.func56, Tryd.ntmps56
  have HX0 := hid ((Blk.new w #[.slice xA xr.length xk, .int .i64 xn] 51).alloc (.cells #[.slice yA yr.length yk, .int .i64 yn] 51))
  have HY0 := hid (Blk.new' (w.alloc (.cells #[.slice xA xr.length xk, .int .i64 xn] 51)) (b := w.heap.size + 1) #[.slice yA yr.length yk, .int .i64 yn] 51 (by simp))
  have HG0 := hid (((Grew.refl w).alloc (.cells #[.slice xA xr.length xk, .int .i64 xn] 51)).alloc (.cells #[.slice yA yr.length yk, .int .i64 yn] 51))
  go_wp2_with fail
  -- STOP-a
  go_loopw [13] (fun s13 wr => ∃ k : Nat, k ≤ bs.length ∧ s13 = .int .i64 k ∧ Hid (R = cmpBy (bs.drop k) xr yr) ∧ Hid (Blk wr w.heap.size #[.slice xA xr.length xk, .int .i64 xn] 51) ∧ Hid (Blk wr (w.heap.size + 1) #[.slice yA yr.length yk, .int .i64 yn] 51) ∧ Hid (Grew w wr)) (fun s13 _ => bs.length - (intOf s13).toNat)
  case atStart => exact ⟨0, by omega, rfl, HR0, HX0, HY0, HG0⟩
  case round =>
    clear HR0 HX0 HY0 HG0
    obtain ⟨k, hk, rfl, HK, HX, HY, HG⟩ := hrel
    have HB := hid HG.out.below
    by_cases hlt : k < bs.length
    · obtain ⟨b, off, rfl, hb, h0⟩ := (HRB.out.step HB.out).int' hlt
      obtain ⟨n0, n1, n2⟩ := HOK.out bs[k] (List.getElem_mem hlt)
      have HD := hid (List.drop_eq_getElem_cons hlt)
      replace HK : Hid (R = if colv bs[k] xr < colv bs[k] yr then -1 else if colv bs[k] yr < colv bs[k] xr then 1 else cmpBy (bs.drop (k + 1)) xr yr) := hid (by rw [HK.out, HD.out, cmpBy_cons])
      clear HD
      generalize bs[k] = n at *
      have hLL := HLL.out
      by_cases hn : n < 0
      · obtain ⟨j, hj⟩ : ∃ j : Nat, (j : Int) = -n - 1 := ⟨(-n - 1).toNat, by omega⟩
        have hjn : (-n - 1).toNat = j := by omega
        have jx : j < xr.length := by omega
        have jy : j < yr.length := by omega
        obtain ⟨bx, ox, rfl, hbx, vx⟩ := (HRX.out.step HB.out).int' jx
        obtain ⟨by', oy, rfl, hby, vy⟩ := (HRY.out.step HB.out).int' jy
        have ex : colv n xr = -xr[j] := by rw [colv, if_pos hn, hjn, List.getD_eq_getElem?_getD, List.getElem?_eq_getElem jx]; rfl
        have ey : colv n yr = -yr[j] := by rw [colv, if_pos hn, hjn, List.getD_eq_getElem?_getD, List.getElem?_eq_getElem jy]; rfl
        rw [ex, ey] at HK
        clear ex ey
        generalize xr[j] = u at *
        generalize yr[j] = v at *
        have hC := fun w1 => compareZ_any u v w1
        obtain ⟨cv, hcv⟩ : ∃ cv, cv = cmpZ u v := ⟨_, rfl⟩
        rw [← hcv] at hC
        have HC := hid hC
        have HCV := hid hcv
        have w1 : IntKind.i64.wrap (-n) = -n := IntWalk.i64_in _ (by omega)
        have w3 : IntKind.i64.wrap (-n - 1) = (j : Int) := by rw [hj]; exact IntWalk.i64_in _ (by omega)
        have p1 : (j : Int) < (xr.length : Int) := by omega
        have p2 : (j : Int) < (yr.length : Int) := by omega
        clear hj hjn hLL
        clear hC hcv
        obtain ⟨cHX, fHX, sHX, nHX⟩ := HX.out.all
        try simp only [cbox] at cHX
        obtain ⟨cHY, fHY, sHY, nHY⟩ := HY.out.all
        try simp only [cbox] at cHY
        by_cases hz : cv = 0
        · have t1 : (cv != 0) = false := by simp [hz]
          have HZ := hid hz
          clear hz
          go_wp2_with fail
          -- STOP-b
          refine wp_region_quiet_lit (by kernel_rfl) (by kernel_rfl) ?_
          repeat (any_goals ((with_reducible refine wpQuiet_step (fun K hK => ?_)); go_simp; first | (with_reducible refine hK _ ?_; clear hK K) | ((with_reducible apply Exists.intro); (with_reducible refine ⟨fun _ => ?_, hK _ ?_⟩); (go_at_call 57; exact (HC.out _).mono fun _ _ ⟨he, hb⟩ => ⟨he, _, hb.symm⟩); clear hK K) | ((with_reducible refine (if_neg ?_).mpr (hK _ ?_)); (decide); clear hK K) | (split <;> (with_reducible refine hK _ ?_; clear hK K))))
          all_goals ((with_reducible refine wpQuiet_nil ?_); intro _ hw'; obtain ⟨nq, hw''⟩ := hw'; subst hw'')
          go_wp2_with fail
          go_roundw
          case rel => exact ⟨k + 1, by omega, by go_num, hid (by rw [HK.out]; have := HZ.out; rw [HCV.out] at this; unfold cmpZ at this; (repeat' split at this) <;> first | omega | (rw [if_neg (by omega), if_neg (by omega)])), hid (HX.out.drewN _), hid (HY.out.drewN _), hid (HG.out.drewN _)⟩
          case measure => simp [intOf]; omega
        · have t1 : (cv != 0) = true := by simp [hz]
          have HZ := hid hz
          have rng : cv = -1 ∨ cv = 1 := by have := HCV.out; unfold cmpZ at this; (repeat' split at this) <;> omega
          have w4 : IntKind.i64.wrap (-1 * cv) = -cv := by rw [Int.neg_one_mul]; exact IntWalk.i64_in _ (by omega)
          have w5 : IntKind.i64.wrap (-cv) = -cv := IntWalk.i64_in _ (by omega)
          clear hz rng
          go_wp2_with fail
          refine wp_region_quiet_lit (by kernel_rfl) (by kernel_rfl) ?_
          repeat (any_goals ((with_reducible refine wpQuiet_step (fun K hK => ?_)); go_simp; first | (with_reducible refine hK _ ?_; clear hK K) | ((with_reducible apply Exists.intro); (with_reducible refine ⟨fun _ => ?_, hK _ ?_⟩); (go_at_call 57; exact (HC.out _).mono fun _ _ ⟨he, hb⟩ => ⟨he, _, hb.symm⟩); clear hK K) | ((with_reducible refine (if_neg ?_).mpr (hK _ ?_)); (decide); clear hK K) | (split <;> (with_reducible refine hK _ ?_; clear hK K))))
          all_goals ((with_reducible refine wpQuiet_nil ?_); intro _ hw'; obtain ⟨nq, hw''⟩ := hw'; subst hw'')
          go_wp2_with fail
          go_ret
          exact ⟨ret_int (by rw [HK.out]; have := HZ.out; rw [HCV.out] at this ⊢; unfold cmpZ at this ⊢; (repeat' split) <;> omega), HG.out.drewN _⟩
      · obtain ⟨j, hj⟩ : ∃ j : Nat, (j : Int) = n - 1 := ⟨(n - 1).toNat, by omega⟩
        have hjn : (n - 1).toNat = j := by omega
        have jx : j < xr.length := by omega
        have jy : j < yr.length := by omega
        obtain ⟨bx, ox, rfl, hbx, vx⟩ := (HRX.out.step HB.out).int' jx
        obtain ⟨by', oy, rfl, hby, vy⟩ := (HRY.out.step HB.out).int' jy
        have ex : colv n xr = xr[j] := by rw [colv, if_neg hn, hjn, List.getD_eq_getElem?_getD, List.getElem?_eq_getElem jx]; rfl
        have ey : colv n yr = yr[j] := by rw [colv, if_neg hn, hjn, List.getD_eq_getElem?_getD, List.getElem?_eq_getElem jy]; rfl
        rw [ex, ey] at HK
        clear ex ey
        generalize xr[j] = u at *
        generalize yr[j] = v at *
        have hC := fun w1 => compareZ_any u v w1
        obtain ⟨cv, hcv⟩ : ∃ cv, cv = cmpZ u v := ⟨_, rfl⟩
        rw [← hcv] at hC
        have HC := hid hC
        have HCV := hid hcv
        have w3 : IntKind.i64.wrap (n - 1) = (j : Int) := by rw [hj]; exact IntWalk.i64_in _ (by omega)
        have p1 : (j : Int) < (xr.length : Int) := by omega
        have p2 : (j : Int) < (yr.length : Int) := by omega
        clear hj hjn hLL
        clear hC hcv
        obtain ⟨cHX, fHX, sHX, nHX⟩ := HX.out.all
        try simp only [cbox] at cHX
        obtain ⟨cHY, fHY, sHY, nHY⟩ := HY.out.all
        try simp only [cbox] at cHY
        by_cases hz : cv = 0
        · have t1 : (cv != 0) = false := by simp [hz]
          have HZ := hid hz
          clear hz
          go_wp2_with fail
          refine wp_region_quiet_lit (by kernel_rfl) (by kernel_rfl) ?_
          repeat (any_goals ((with_reducible refine wpQuiet_step (fun K hK => ?_)); go_simp; first | (with_reducible refine hK _ ?_; clear hK K) | ((with_reducible apply Exists.intro); (with_reducible refine ⟨fun _ => ?_, hK _ ?_⟩); (go_at_call 57; exact (HC.out _).mono fun _ _ ⟨he, hb⟩ => ⟨he, _, hb.symm⟩); clear hK K) | ((with_reducible refine (if_neg ?_).mpr (hK _ ?_)); (decide); clear hK K) | (split <;> (with_reducible refine hK _ ?_; clear hK K))))
          all_goals ((with_reducible refine wpQuiet_nil ?_); intro _ hw'; obtain ⟨nq, hw''⟩ := hw'; subst hw'')
          go_wp2_with fail
          go_roundw
          case rel => exact ⟨k + 1, by omega, by go_num, hid (by rw [HK.out]; have := HZ.out; rw [HCV.out] at this; unfold cmpZ at this; (repeat' split at this) <;> first | omega | (rw [if_neg (by omega), if_neg (by omega)])), hid (HX.out.drewN _), hid (HY.out.drewN _), hid (HG.out.drewN _)⟩
          case measure => simp [intOf]; omega
        · have t1 : (cv != 0) = true := by simp [hz]
          have HZ := hid hz
          have rng : cv = -1 ∨ cv = 1 := by have := HCV.out; unfold cmpZ at this; (repeat' split at this) <;> omega
          have w4 : IntKind.i64.wrap (1 * cv) = cv := by rw [Int.one_mul]; exact IntWalk.i64_in _ (by omega)
          have w5 : IntKind.i64.wrap cv = cv := IntWalk.i64_in _ (by omega)
          clear hz rng
          go_wp2_with fail
          refine wp_region_quiet_lit (by kernel_rfl) (by kernel_rfl) ?_
          repeat (any_goals ((with_reducible refine wpQuiet_step (fun K hK => ?_)); go_simp; first | (with_reducible refine hK _ ?_; clear hK K) | ((with_reducible apply Exists.intro); (with_reducible refine ⟨fun _ => ?_, hK _ ?_⟩); (go_at_call 57; exact (HC.out _).mono fun _ _ ⟨he, hb⟩ => ⟨he, _, hb.symm⟩); clear hK K) | ((with_reducible refine (if_neg ?_).mpr (hK _ ?_)); (decide); clear hK K) | (split <;> (with_reducible refine hK _ ?_; clear hK K))))
          all_goals ((with_reducible refine wpQuiet_nil ?_); intro _ hw'; obtain ⟨nq, hw''⟩ := hw'; subst hw'')
          go_wp2_with fail
          go_ret
          exact ⟨ret_int (by rw [HK.out]; have := HZ.out; rw [HCV.out] at this ⊢; unfold cmpZ at this ⊢; (repeat' split) <;> omega), HG.out.drewN _⟩
    · have hkb : k = bs.length := by omega
      subst hkb
      rw [List.drop_length] at HK
      have HCW := hid (HCO.out wr HB.out)
      obtain ⟨cHX, fHX, sHX, nHX⟩ := HX.out.all
      try simp only [cbox] at cHX
      obtain ⟨cHY, fHY, sHY, nHY⟩ := HY.out.all
      try simp only [cbox] at cHY
      go_wp2_with (go_at_call 50; refine HCW.out.mono ?_; rintro e w' ⟨rfl, rfl⟩)
      go_ret
      exact ⟨ret_int (by rw [HK.out, cmpBy_nil]), HG.out⟩
theorem enters_order1 : ∀ args w, (callFunc 56 args).run Tryd.prog w = .ok (.enter 56 args) w := enters_of Tryd.func56 (by kernel_rfl) rfl
end Go.Proofs.YtldlmkfigjicgaaDoor
/- slices.Clone at Item; slices.SortFunc at Item by an order of columns. -/
namespace Go.Proofs.YtldlmkfigjicgaaDoor
set_option linter.unusedVariables false
set_option linter.unusedSimpArgs false
open Go.ChangeShapes Go.WideShapes Go.ChangeAt Go.RowKit Go.Shelf Go.Lib Go.Sort

/-- A list of a call's own making, of given cells. -/
def OwnPost (T : TypeId) (s n : Nat) (xs : List Value) (w : World) (e : Ending) (w' : World) : Prop := ∃ v, e = .returned v ∧ w'.ownsRow w.heap.size T s v n xs ∧ Below w.heap.size w w'
set_option maxHeartbeats 400000 in
set_option maxRecDepth 100000 in
theorem cloneIt_any (M : List IR) (A : Option Addr) (c : Nat) (w : World) (hr : Row w w.heap.size A (rcells M)) (hl : M.length ≤ 1048576) :
    Calls Tryd.prog 26 #[.slice A M.length c] w (OwnPost 51 2 M.length (rcells M) w) := by
  rcases A with _ | ad
  · have he : M = [] := by
      rcases hr with h | ⟨b, off, h, _⟩
      · cases M with
        | nil => rfl
        | cons x M => simp [rcells, IR.cells] at h
      · cases h
    subst he
    have hnil := fun (w : World) => Lib.run_eql_slice_nil w (P := Tryd.prog) (t := 22) (e := 51) none 0 c 0 0 Tryd.underlying22
    go_enter Tryd.func26, Tryd.ntmps26
    go_wp2
    go_ret
    exact ⟨_, rfl, World.ownsRow_nil _ _ _ _, Below.refl _ _⟩
  · have hnil := fun (w : World) => Lib.run_eql_slice_nil w (P := Tryd.prog) (t := 22) (e := 51) (some ad) M.length c 0 0 Tryd.underlying22
    have HR := hid hr
    have h2 := rcells_len M
    clear hr
    go_enter Tryd.func26, Tryd.ntmps26
    go_wp2_with (at_builtin; refine wpList_append_row elem_item rfl _ _ rfl w.heap.size (.slice (some ⟨w.heap.size, 0, none⟩) 0 0) 0 [] rfl (World.ownsRow_made w #[] 0 (Nat.le_refl _) (by decide) rfl) (some ad) M.length c w.heap.size (rcells M) rfl ?_ (HR.out.below (Below.alloc (Below.refl _ _) (Nat.le_refl _) _) (Nat.le_refl _)) ?_ ?_ ?_ ?_ ?_; rotate_right; intro v1 w1 hown1 hg1 hat1; rotate_left; (exact h2); (exact rcells_one M); (simp only [maxLen]; omega); (omega); (simp))
    go_ret
    refine ⟨_, rfl, by simpa using hown1, ((Below.refl _ _).alloc (Nat.le_refl _) _).grown hg1 (by simp) (fun k hk => ?_)⟩
    simp [Value.ownBlock] at hk
    omega

theorem order_any (bs : List Int) (bA : Option Addr) (bc : Nat) (w : World) :
    Calls Tryd.prog 28 #[.slice bA bs.length bc] w fun e w' => e = .returned (.func (.func 56) #[] #[.pointer (some ⟨w.heap.size, 0, none⟩)]) ∧ w' = w.alloc (.cells #[.slice bA bs.length bc] 23) := by
  go_enter Tryd.func28, Tryd.ntmps28
  go_wp2
  go_ret
  exact ⟨rfl, rfl⟩

/-- What is asked of the items that a sort by columns orders: their rows lie below B, and are of one width. -/
def RowN (w : World) (B n : Nat) (x : IR) : Prop := Row w B x.A (icells' x.row) ∧ x.row.length = n
def byCf {Q : IR → Prop} (bs : List Int) (x y : QI Q) : Int := cmpBy bs x.1.row y.1.row
theorem swo_by {Q : IR → Prop} (bs : List Int) : SWO (ltOf (byCf (Q := Q) bs)) where
  irrefl x := swo_it.irrefl (byKey bs x.1.row, 0)
  trans x y z h1 h2 := swo_it.trans (byKey bs x.1.row, 0) (byKey bs y.1.row, 0) (byKey bs z.1.row, 0) h1 h2
  ntrans x y z h1 h2 := swo_it.ntrans (byKey bs x.1.row, 0) (byKey bs y.1.row, 0) (byKey bs z.1.row, 0) h1 h2
theorem Caught.grown {w w' : World} {b off : Nat} {v : Value} (h : Caught w ⟨b, off, none⟩ v) {r : Option Nat} (hg : w.grownBy w' r) (hne : some b ≠ r) : Caught w' ⟨b, off, none⟩ v :=
  ⟨(World.cell?_of_block (w := w) (hg.block b h.2 hne)).trans h.1, Nat.lt_of_lt_of_le h.2 hg.size⟩
theorem cmpLays_order1 {w : World} {B n : Nat} [Inhabited (QI (RowN w B n))] (bs : List Int) (bA : Option Addr) (bc g0 : Nat) (blk off size : Nat) (hB : B ≤ w.heap.size) (hblk : B ≤ blk) (hb : Row w B bA (icells' bs)) (hbl : bs.length ≤ 9223372036854775807) (hc : Caught w ⟨g0, 0, none⟩ (.slice bA bs.length bc)) (hg0 : g0 ≠ blk) (hn : n ≤ 9223372036854775807) (hok : ByOk n bs) :
    CmpLays Tryd.prog 56 #[.pointer (some ⟨g0, 0, none⟩)] (QI.cells (Q := RowN w B n)) 2 (byCf bs) blk off size w := fun m os dk hs x y => by
  have hg := sortWorldK_grown (QI.cells (Q := RowN w B n)) 2 w blk off m dk os
  have hr : ∀ z : QI (RowN w B n), Row (sortWorldK (QI.cells (Q := RowN w B n)) 2 w blk off m dk os) (sortWorldK (QI.cells (Q := RowN w B n)) 2 w blk off m dk os).heap.size z.1.A (icells' z.1.row) := fun z =>
    (z.2.1.grown hB hg (fun k e => by injection e with e; omega)).more (Nat.le_trans hB hg.size)
  have hx := x.2.2
  have hy := y.2.2
  exact order1_any bs bA bc g0 x.1 y.1 _ ((hb.grown hB hg (fun k e => by injection e with e; omega)).more (Nat.le_trans hB hg.size)) hbl (hc.grown hg (fun e => hg0 (by injection e))) (hr x) (by omega) (hr y) (by omega) (by rw [hx]; exact hok)

/-- slices.SortFunc by columns, over a row that the call owns. -/
theorem sortBy_own {B : Nat} {v : Value} (bs : List Int) (bA : Option Addr) (bc g0 n : Nat) (L : List IR) (w : World) (hown : w.ownsRow B 51 2 v L.length (rcells L)) (hr : ∀ x ∈ L, RowN w B n x) (hB : B ≤ w.heap.size) (hb : Row w B bA (icells' bs)) (hbl : bs.length ≤ 9223372036854775807)
    (hc : Caught w ⟨g0, 0, none⟩ (.slice bA bs.length bc)) (hg0 : some g0 ≠ v.ownBlock) (hn : n ≤ 9223372036854775807) (hok : ByOk n bs) (hl : L.length ≤ 140737488355328) :
    Calls Tryd.prog 27 #[v, .func (.func 56) #[] #[.pointer (some ⟨g0, 0, none⟩)]] w fun e w' => e = .returned (.tuple #[]) ∧ ∃ L' : List IR, L'.Perm L ∧ (its L').Pairwise (fun x y => byLt bs y x = false) ∧ w'.ownsRow B 51 2 v L.length (rcells L') ∧ w.grownBy w' v.ownBlock := by
  rcases hown.2 with ⟨rfl, h0⟩ | ⟨g, cap, cur, rfl, hbg, hg, hcap, hm, hs, ht⟩
  · have hl0 : L = [] := List.eq_nil_of_length_eq_zero h0
    subst hl0
    refine (AnyF.slices_SortFunc_none Tryd.sortItem none 0 _ w).mono fun e w' ⟨he, hw⟩ => ?_
    subst hw
    exact ⟨he, [], List.Perm.refl _, List.Pairwise.nil, hown, ⟨rfl, rfl, rfl, Nat.le_refl _, fun _ _ _ => rfl⟩⟩
  · have hlt : g < w.heap.size := by
      rcases Nat.lt_or_ge g w.heap.size with h | h
      · exact h
      · rw [Array.getElem?_eq_none h] at hg; cases hg
    by_cases hL0 : L = []
    · subst hL0
      refine (AnyF.slices_SortFunc_none Tryd.sortItem _ cap _ w).mono fun e w' ⟨he, hw⟩ => ?_
      subst hw
      exact ⟨he, [], List.Perm.refl _, List.Pairwise.nil, hown, ⟨rfl, rfl, rfl, Nat.le_refl _, fun _ _ _ => rfl⟩⟩
    · haveI : Inhabited (QI (RowN w B n)) := ⟨⟨L.head hL0, hr _ (List.head_mem hL0)⟩⟩
      have hv : (L.attachWith (RowN w B n) hr).map Subtype.val = L := by simp
      obtain ⟨l, hLe⟩ : ∃ l : List (QI (RowN w B n)), l = L.attachWith (RowN w B n) hr := ⟨_, rfl⟩
      rw [← hLe] at hv
      have hln : l.length = L.length := by rw [← hv, List.length_map]
      have hcells : l.flatMap QI.cells = rcells L := by rw [cells_val, hv]
      have hg0' : g0 ≠ g := fun e => hg0 (by rw [e]; rfl)
      have H := AnyQ.slices_SortFunc Tryd.sortItem 2 Tryd.isAgg51 Tryd.sizeOf51 (QI.cells (Q := RowN w B n)) (fun _ => rfl) (fun x u hu => by simp only [QI.cells, IR.cells, List.mem_cons, List.not_mem_nil, or_false] at hu; rcases hu with rfl | rfl <;> rfl) (byCf bs) (swo_by bs) 56 #[.pointer (some ⟨g0, 0, none⟩)] g 0 cap l.toArray w enters_order1
        (cmpLays_order1 bs bA bc g0 g 0 l.toArray.size hB hbg hb hbl hc hg0' hn hok) (own_holds _ (fun _ => rfl) hg (by rw [hln, ht, hcells])) hlt (by rw [List.size_toArray, hln]; omega)
      rw [show l.toArray.size = L.length by rw [List.size_toArray, hln]] at H
      refine H.mono fun e w' ⟨he, d', m, os, hp, hsrt, hw⟩ => ?_
      rw [show L.length = l.toArray.size by rw [List.size_toArray, hln]] at hp hsrt
      have hperm := perm_all hp
      have hd : d' = d'.toList.toArray := by simp
      have hdl : d'.toList.length = L.length := by rw [hperm.length_eq]; simpa using hln
      have ho := own_sorted (QI.cells (Q := RowN w B n)) (fun _ => rfl) (l' := d'.toList) (n := m) (os := os) hbg hg (by rw [hdl]; exact hcap) hm hs
      rw [← hd, ← hw, cells_val, hdl] at ho
      refine ⟨he, d'.toList.map Subtype.val, ?_, ?_, ho, ?_⟩
      · have := hperm.map Subtype.val
        rw [hv] at this
        exact this
      · rw [List.pairwise_iff_getElem]
        intro i j hi hj hij
        simp only [its, List.length_map] at hi hj
        have h1 := hsrt i j (Nat.zero_le _) hij (by rw [List.size_toArray, hln, ← hdl]; exact hj)
        have hi' : i < d'.size := by simpa using hi
        have hj' : j < d'.size := by simpa using hj
        rw [getElem!_pos d' i hi', getElem!_pos d' j hj'] at h1
        simp only [its, List.getElem_map, Array.getElem_toList, IR.it]
        exact h1
      · rw [hw]
        exact sortWorldK_grown _ _ _ _ _ _ _ _
end Go.Proofs.YtldlmkfigjicgaaDoor
