/- QyB, QyC, PnA -/
import Derived.Test.YtmcdaibdpeeefaaCk09
import Derived.Test.YtmcdaibdpeeefaaCk10
import Derived.Test.YtmcdaibdpeeefaaCk04
import Derived.Test.YtmcdaibdpeeefaaCk06
/- query.width. -/
namespace Go.Proofs.Ytmcdaibdpeeefaa
set_option linter.unusedVariables false
set_option linter.unusedSimpArgs false
open Go.ChangeShapes Go.WideShapes Go.ChangeAt Go.RowKit

theorem getD_in {W : List Int} {j : Nat} (h : j < W.length) (hr : ∀ v ∈ W, 1 ≤ v ∧ v ≤ 8) : 1 ≤ W.getD j 0 ∧ W.getD j 0 ≤ 8 := by
  rw [List.getD_eq_getElem?_getD, List.getElem?_eq_getElem h]
  exact hr _ (List.getElem_mem h)
theorem stW_range {s : St} {W : List Int} (hr : ∀ v ∈ W, 1 ≤ v ∧ v ≤ 8) (h : stW s W ≠ 0) : 1 ≤ stW s W ∧ stW s W ≤ 8 := by
  have hv := stW_val h
  have ho := stW_ok h
  rw [hv] at h ⊢
  unfold wv at h ⊢
  rcases ho with ⟨k1, -⟩ | ⟨a0, a1, b0, b1, hk⟩
  · rw [if_pos k1]; omega
  · have hA := getD_in (W := W) (j := s.a.toNat) (by omega) hr
    have hB := getD_in (W := W) (j := s.b.toNat) (by omega) hr
    generalize W.getD s.a.toNat 0 = u at *
    generalize W.getD s.b.toNat 0 = v at *
    rcases hk with ⟨k, -⟩ | ⟨k, l, -⟩ | ⟨k, -, -, -, -, e⟩ | ⟨k, -⟩ | k | ⟨k, -⟩ | ⟨k, -⟩
    · rw [if_neg (by omega), if_neg (by omega), if_neg (by omega), if_neg (by omega)]; omega
    · rw [if_neg (by omega), if_pos k] at h ⊢; omega
    · rw [if_neg (by omega), if_neg (by omega), if_pos k]; omega
    · rw [if_neg (by omega), if_neg (by omega), if_neg (by omega), if_neg (by omega)]; omega
    · rw [if_neg (by omega), if_neg (by omega), if_neg (by omega), if_neg (by omega)]; omega
    · rw [if_neg (by omega), if_neg (by omega), if_neg (by omega), if_pos (by omega)]; omega
    · rw [if_neg (by omega), if_neg (by omega), if_neg (by omega), if_pos (by omega)]; omega

set_option maxHeartbeats 1000000 in
set_option maxRecDepth 100000 in
theorem width_k1 (sa sb sc so sv : Int) (sl : List Int) (sA : Option Addr) (sK : Nat) (W : List Int) (WA : Option Addr) (Wc : Nat) (w : World) (hl : Row w w.heap.size sA (icells' sl)) (hll : sl.length ≤ 9223372036854775807) (hW : Row w w.heap.size WA (icells' W)) (hW8 : W.length ≤ 8) (hr : ∀ v ∈ W, 1 ≤ v ∧ v ≤ 8) :
    Calls Try.prog 89 #[.agg #[.int .i64 1, .int .i64 sa, .int .i64 sb, .int .i64 sc, .int .i64 so, .int .i64 sv, .slice sA sl.length sK], .slice WA W.length Wc] w fun e w' => e = .returned (.int .i64 (stW ⟨1, sa, sb, sc, so, sv, sl⟩ W)) ∧ Below w.heap.size w w' := by
  obtain ⟨R, hR⟩ : ∃ R, R = stW ⟨1, sa, sb, sc, so, sv, sl⟩ W := ⟨_, rfl⟩
  rw [← hR]
  have HR := hid hR
  clear hR
  have HL := hid hl
  have HRW := hid hW
  clear hl hW
  have hwl : IntKind.i64.wrap ((W.length : Int) - 1) = (W.length : Int) - 1 := IntWalk.i64_in _ (by omega)
  cases htA : wiB sa 0 1
  · go_enter Try.func89, Try.ntmps89
    go_wp2_with (go_at_call 99; refine (qwithin_any _ _ _ _).mono ?_; rintro e w' ⟨rfl, rfl⟩)
    go_ret
    exact ⟨ret_int (by rw [HR.out]; simp [stW, tblB, badStep, twoB, htA]), by (repeat' (first | (with_reducible exact Below.refl _ _) | (with_reducible assumption) | (with_reducible refine below_drewN ?_ _) | (with_reducible refine Below.drew ?_) | (with_reducible refine Below.alloc ?_ ?_ _) | (with_reducible refine Below.setCell ?_ ?_ _) | (refine Below.trans ?_ (Below.mono (by assumption) ?_)) | go_size))⟩
  · cases htb : (sb == 0)
    · go_enter Try.func89, Try.ntmps89
      go_wp2_with (go_at_call 99; refine (qwithin_any _ _ _ _).mono ?_; rintro e w' ⟨rfl, rfl⟩)
      go_ret
      exact ⟨ret_int (by rw [HR.out]; simp [stW, tblB, badStep, twoB, htA, htb]), by (repeat' (first | (with_reducible exact Below.refl _ _) | (with_reducible assumption) | (with_reducible refine below_drewN ?_ _) | (with_reducible refine Below.drew ?_) | (with_reducible refine Below.alloc ?_ ?_ _) | (with_reducible refine Below.setCell ?_ ?_ _) | (refine Below.trans ?_ (Below.mono (by assumption) ?_)) | go_size))⟩
    · cases htc : (sc == 0)
      · go_enter Try.func89, Try.ntmps89
        go_wp2_with (go_at_call 99; refine (qwithin_any _ _ _ _).mono ?_; rintro e w' ⟨rfl, rfl⟩)
        go_ret
        exact ⟨ret_int (by rw [HR.out]; simp [stW, tblB, badStep, twoB, htA, htb, htc]), by (repeat' (first | (with_reducible exact Below.refl _ _) | (with_reducible assumption) | (with_reducible refine below_drewN ?_ _) | (with_reducible refine Below.drew ?_) | (with_reducible refine Below.alloc ?_ ?_ _) | (with_reducible refine Below.setCell ?_ ?_ _) | (refine Below.trans ?_ (Below.mono (by assumption) ?_)) | go_size))⟩
      · cases hto : (so == 0)
        · go_enter Try.func89, Try.ntmps89
          go_wp2_with (go_at_call 99; refine (qwithin_any _ _ _ _).mono ?_; rintro e w' ⟨rfl, rfl⟩)
          go_ret
          exact ⟨ret_int (by rw [HR.out]; simp [stW, tblB, badStep, twoB, htA, htb, htc, hto]), by (repeat' (first | (with_reducible exact Below.refl _ _) | (with_reducible assumption) | (with_reducible refine below_drewN ?_ _) | (with_reducible refine Below.drew ?_) | (with_reducible refine Below.alloc ?_ ?_ _) | (with_reducible refine Below.setCell ?_ ?_ _) | (refine Below.trans ?_ (Below.mono (by assumption) ?_)) | go_size))⟩
        · cases htv : (sv == 0)
          · go_enter Try.func89, Try.ntmps89
            go_wp2_with (go_at_call 99; refine (qwithin_any _ _ _ _).mono ?_; rintro e w' ⟨rfl, rfl⟩)
            go_ret
            exact ⟨ret_int (by rw [HR.out]; simp [stW, tblB, badStep, twoB, htA, htb, htc, hto, htv]), by (repeat' (first | (with_reducible exact Below.refl _ _) | (with_reducible assumption) | (with_reducible refine below_drewN ?_ _) | (with_reducible refine Below.drew ?_) | (with_reducible refine Below.alloc ?_ ?_ _) | (with_reducible refine Below.setCell ?_ ?_ _) | (refine Below.trans ?_ (Below.mono (by assumption) ?_)) | go_size))⟩
          · cases htl : (sl.length == 0)
            · have htl' : ((sl.length : Int) == 0) = false := beq_eq_false_iff_ne.2 (by have := beq_eq_false_iff_ne.1 htl; omega)
              go_enter Try.func89, Try.ntmps89
              go_wp2_with (go_at_call 99; refine (qwithin_any _ _ _ _).mono ?_; rintro e w' ⟨rfl, rfl⟩)
              go_ret
              exact ⟨ret_int (by rw [HR.out]; simp [stW, tblB, badStep, twoB, htA, htb, htc, hto, htv, htl]), by (repeat' (first | (with_reducible exact Below.refl _ _) | (with_reducible assumption) | (with_reducible refine below_drewN ?_ _) | (with_reducible refine Below.drew ?_) | (with_reducible refine Below.alloc ?_ ?_ _) | (with_reducible refine Below.setCell ?_ ?_ _) | (refine Below.trans ?_ (Below.mono (by assumption) ?_)) | go_size))⟩
            · have htl' : ((sl.length : Int) == 0) = true := beq_iff_eq.2 (by have := beq_iff_eq.1 htl; omega)
              go_enter Try.func89, Try.ntmps89
              go_wp2_with (go_at_call 99; refine (qwithin_any _ _ _ _).mono ?_; rintro e w' ⟨rfl, rfl⟩)
              go_ret
              exact ⟨ret_int (by rw [HR.out]; simp [stW, tblB, badStep, twoB, htA, htb, htc, hto, htv, htl]), by (repeat' (first | (with_reducible exact Below.refl _ _) | (with_reducible assumption) | (with_reducible refine below_drewN ?_ _) | (with_reducible refine Below.drew ?_) | (with_reducible refine Below.alloc ?_ ?_ _) | (with_reducible refine Below.setCell ?_ ?_ _) | (refine Below.trans ?_ (Below.mono (by assumption) ?_)) | go_size))⟩
set_option maxHeartbeats 1000000 in
set_option maxRecDepth 100000 in
theorem width_k3 (sa sb sc so sv : Int) (sl : List Int) (sA : Option Addr) (sK : Nat) (W : List Int) (WA : Option Addr) (Wc : Nat) (w : World) (hl : Row w w.heap.size sA (icells' sl)) (hll : sl.length ≤ 9223372036854775807) (hW : Row w w.heap.size WA (icells' W)) (hW8 : W.length ≤ 8) (hr : ∀ v ∈ W, 1 ≤ v ∧ v ≤ 8) :
    Calls Try.prog 89 #[.agg #[.int .i64 3, .int .i64 sa, .int .i64 sb, .int .i64 sc, .int .i64 so, .int .i64 sv, .slice sA sl.length sK], .slice WA W.length Wc] w fun e w' => e = .returned (.int .i64 (stW ⟨3, sa, sb, sc, so, sv, sl⟩ W)) ∧ Below w.heap.size w w' := by
  obtain ⟨R, hR⟩ : ∃ R, R = stW ⟨3, sa, sb, sc, so, sv, sl⟩ W := ⟨_, rfl⟩
  rw [← hR]
  have HR := hid hR
  clear hR
  have HL := hid hl
  have HRW := hid hW
  clear hl hW
  have hwl : IntKind.i64.wrap ((W.length : Int) - 1) = (W.length : Int) - 1 := IntWalk.i64_in _ (by omega)
  cases hA : wiB sa 0 ((W.length : Int) - 1)
  · go_enter Try.func89, Try.ntmps89
    go_wp2_with (go_at_call 99; refine (qwithin_any _ _ _ _).mono ?_; rintro e w' ⟨rfl, rfl⟩)
    go_ret
    exact ⟨ret_int (by rw [HR.out]; simp [stW, tblB, badStep, twoB, hA]), by (repeat' (first | (with_reducible exact Below.refl _ _) | (with_reducible assumption) | (with_reducible refine below_drewN ?_ _) | (with_reducible refine Below.drew ?_) | (with_reducible refine Below.alloc ?_ ?_ _) | (with_reducible refine Below.setCell ?_ ?_ _) | (refine Below.trans ?_ (Below.mono (by assumption) ?_)) | go_size))⟩
  · cases hn : (sb != 0)
    · have hn' : (sb == 0) = true := by rw [Bool.eq_iff_iff]; simpa using hn
      cases hp : decide (0 < sl.length)
      · have hp' : ((0 : Int) < (sl.length : Int)) = False := eq_false (by have := of_decide_eq_false hp; omega)
        go_enter Try.func89, Try.ntmps89
        go_wp2_with (go_at_call 99; refine (qwithin_any _ _ _ _).mono ?_; rintro e w' ⟨rfl, rfl⟩)
        go_ret
        exact ⟨ret_int (by rw [HR.out]; simp [stW, tblB, badStep, twoB, hA, hn, hp]), by (repeat' (first | (with_reducible exact Below.refl _ _) | (with_reducible assumption) | (with_reducible refine below_drewN ?_ _) | (with_reducible refine Below.drew ?_) | (with_reducible refine Below.alloc ?_ ?_ _) | (with_reducible refine Below.setCell ?_ ?_ _) | (refine Below.trans ?_ (Below.mono (by assumption) ?_)) | go_size))⟩
      · have hp' : ((0 : Int) < (sl.length : Int)) = True := eq_true (by have := of_decide_eq_true hp; omega)
        have hA2 := wiB_iff.1 hA
        obtain ⟨ja, rfl⟩ : ∃ ja : Nat, sa = (ja : Int) := ⟨sa.toNat, by omega⟩
        have hja : ja < W.length := by omega
        obtain ⟨bw, ow, rfl, hbw, va⟩ := HRW.out.int' hja
        obtain rfl : sb = 0 := by simpa using hn
        obtain ⟨jb, hjb0⟩ : ∃ jb : Nat, jb = 0 := ⟨0, rfl⟩
        have hjb : jb < W.length := by omega
        obtain ⟨bw', ow', e', -, vb⟩ := HRW.out.int' hjb
        injection e' with e'
        injection e' with q1 q2
        subst q1 q2
        subst hjb0
        simp only [Nat.add_zero] at vb
        have hu := hr W[ja] (List.getElem_mem hja)
        have hv := hr W[0] (List.getElem_mem hjb)
        have HE : Hid (R = ofW ⟨3, ja, 0, sc, so, sv, sl⟩ W[ja] W[0]) := hid (by
          rw [HR.out]
          have e1 : W.getD ja 0 = W[ja] := by rw [List.getD_eq_getElem?_getD, List.getElem?_eq_getElem hja]; rfl
          have e2 : W.getD 0 0 = W[0] := by rw [List.getD_eq_getElem?_getD, List.getElem?_eq_getElem hjb]; rfl
          have e3 : badStep ⟨3, ja, 0, sc, so, sv, sl⟩ ((W.length : Int) - 1) = false := by simp [badStep, twoB, hA, hn, hp]
          unfold stW
          simp only [e3, Int.toNat_natCast, e1]
          rw [if_neg (by omega), if_neg (by simp)]
          rw [show ((0 : Int)).toNat = 0 from rfl, e2])
        generalize W[ja] = u at *
        generalize W[0] = v at *
        have HOF := hid (fun w1 (hbb : Below w.heap.size w w1) => of_any' ⟨⟨3, ja, 0, sc, so, sv, sl⟩, sA, sK⟩ u v w1 (by omega) (by omega) (HL.out.step hbb) hll)
        simp only [SR.cells] at HOF
        rw [← HE.out] at HOF
        obtain ⟨W1, hW1⟩ : ∃ W1 : World, W1 = w.alloc (.cells #[.int .i64 3, .int .i64 (ja : Int), .int .i64 0, .int .i64 sc, .int .i64 so, .int .i64 sv, .slice sA sl.length sK] 49) := ⟨_, rfl⟩
        have HX := hid (show Blk W1 w.heap.size #[.int .i64 3, .int .i64 (ja : Int), .int .i64 0, .int .i64 sc, .int .i64 so, .int .i64 sv, .slice sA sl.length sK] 49 by rw [hW1]; exact Blk.new _ _ _)
        have HB1 := hid (show Below w.heap.size w W1 by rw [hW1]; (repeat' (first | (with_reducible exact Below.refl _ _) | (with_reducible assumption) | (with_reducible refine below_drewN ?_ _) | (with_reducible refine Below.drew ?_) | (with_reducible refine Below.alloc ?_ ?_ _) | (with_reducible refine Below.setCell ?_ ?_ _) | (refine Below.trans ?_ (Below.mono (by assumption) ?_)) | go_size)))
        have va' := ((bcell HB1.out).1 bw _ hbw).trans va
        have vb' := ((bcell HB1.out).1 bw _ hbw).trans vb
        have hbw' : bw < W1.heap.size := Nat.lt_of_lt_of_le hbw HB1.out.size
        have hjal : (ja : Int) < (W.length : Int) := by omega
        have h0l : (0 : Int) < (W.length : Int) := by omega
        clear va vb hbw HR HE hA2
        go_enter Try.func89, Try.ntmps89
        go_wp2_with (go_at_call 99; refine (qwithin_any _ _ _ _).mono ?_; rintro e w' ⟨rfl, rfl⟩)
        rw [← hW1]
        clear hW1
        obtain ⟨cHX, fHX, sHX, nHX⟩ := HX.out.all
        try simp only [cbox] at cHX
        refine region_ext (by kernel_rfl) (by kernel_rfl) (fun hext => ?_)
        repeat (any_goals ((with_reducible refine wpQuiet_step (fun K hK => ?_)); go_simp; first | (with_reducible refine hK _ ?_; clear hK K) | ((with_reducible apply Exists.intro); (with_reducible refine ⟨fun _ => ?_, hK _ ?_⟩); ((go_at_call 100; (with_reducible refine ext_call _ ?_ (HOF.out _ (Below.step' HB1.out (Ext.below _)))); simp)); clear hK K) | ((with_reducible refine (if_neg ?_).mpr (hK _ ?_)); (decide); clear hK K) | (split <;> (with_reducible refine hK _ ?_; clear hK K))))
        all_goals ((with_reducible refine wpQuiet_nil ?_); clear hext; intro w1 hx1; have hb1 := ext_below hx1; clear hx1)
        have HB2 := hid (Below.step' HB1.out hb1)
        clear hb1
        go_wp2
        go_ret
        exact ⟨rfl, HB2.out⟩
    · have hn' : (sb == 0) = false := by rw [Bool.eq_false_iff]; simpa using hn
      go_enter Try.func89, Try.ntmps89
      go_wp2_with (go_at_call 99; refine (qwithin_any _ _ _ _).mono ?_; rintro e w' ⟨rfl, rfl⟩)
      go_ret
      exact ⟨ret_int (by rw [HR.out]; simp [stW, tblB, badStep, twoB, hA, hn]), by (repeat' (first | (with_reducible exact Below.refl _ _) | (with_reducible assumption) | (with_reducible refine below_drewN ?_ _) | (with_reducible refine Below.drew ?_) | (with_reducible refine Below.alloc ?_ ?_ _) | (with_reducible refine Below.setCell ?_ ?_ _) | (refine Below.trans ?_ (Below.mono (by assumption) ?_)) | go_size))⟩
set_option maxHeartbeats 1000000 in
set_option maxRecDepth 100000 in
theorem width_k4 (sa sb sc so sv : Int) (sl : List Int) (sA : Option Addr) (sK : Nat) (W : List Int) (WA : Option Addr) (Wc : Nat) (w : World) (hl : Row w w.heap.size sA (icells' sl)) (hll : sl.length ≤ 9223372036854775807) (hW : Row w w.heap.size WA (icells' W)) (hW8 : W.length ≤ 8) (hr : ∀ v ∈ W, 1 ≤ v ∧ v ≤ 8) :
    Calls Try.prog 89 #[.agg #[.int .i64 4, .int .i64 sa, .int .i64 sb, .int .i64 sc, .int .i64 so, .int .i64 sv, .slice sA sl.length sK], .slice WA W.length Wc] w fun e w' => e = .returned (.int .i64 (stW ⟨4, sa, sb, sc, so, sv, sl⟩ W)) ∧ Below w.heap.size w w' := by
  obtain ⟨R, hR⟩ : ∃ R, R = stW ⟨4, sa, sb, sc, so, sv, sl⟩ W := ⟨_, rfl⟩
  rw [← hR]
  have HR := hid hR
  clear hR
  have HL := hid hl
  have HRW := hid hW
  clear hl hW
  have hwl : IntKind.i64.wrap ((W.length : Int) - 1) = (W.length : Int) - 1 := IntWalk.i64_in _ (by omega)
  cases hA : wiB sa 0 ((W.length : Int) - 1)
  · go_enter Try.func89, Try.ntmps89
    go_wp2_with (go_at_call 99; refine (qwithin_any _ _ _ _).mono ?_; rintro e w' ⟨rfl, rfl⟩)
    go_ret
    exact ⟨ret_int (by rw [HR.out]; simp [stW, tblB, badStep, twoB, hA]), by (repeat' (first | (with_reducible exact Below.refl _ _) | (with_reducible assumption) | (with_reducible refine below_drewN ?_ _) | (with_reducible refine Below.drew ?_) | (with_reducible refine Below.alloc ?_ ?_ _) | (with_reducible refine Below.setCell ?_ ?_ _) | (refine Below.trans ?_ (Below.mono (by assumption) ?_)) | go_size))⟩
  · cases hB : wiB sb 0 ((W.length : Int) - 1)
    · go_enter Try.func89, Try.ntmps89
      go_wp2_with (go_at_call 99; refine (qwithin_any _ _ _ _).mono ?_; rintro e w' ⟨rfl, rfl⟩)
      go_ret
      exact ⟨ret_int (by rw [HR.out]; simp [stW, tblB, badStep, twoB, hA, hB]), by (repeat' (first | (with_reducible exact Below.refl _ _) | (with_reducible assumption) | (with_reducible refine below_drewN ?_ _) | (with_reducible refine Below.drew ?_) | (with_reducible refine Below.alloc ?_ ?_ _) | (with_reducible refine Below.setCell ?_ ?_ _) | (refine Below.trans ?_ (Below.mono (by assumption) ?_)) | go_size))⟩
    · cases hp : decide (0 < sl.length)
      · have hp' : ((0 : Int) < (sl.length : Int)) = False := eq_false (by have := of_decide_eq_false hp; omega)
        have hA2 := wiB_iff.1 hA
        obtain ⟨ja, rfl⟩ : ∃ ja : Nat, sa = (ja : Int) := ⟨sa.toNat, by omega⟩
        have hja : ja < W.length := by omega
        obtain ⟨bw, ow, rfl, hbw, va⟩ := HRW.out.int' hja
        have hB2 := wiB_iff.1 hB
        obtain ⟨jb, rfl⟩ : ∃ jb : Nat, sb = (jb : Int) := ⟨sb.toNat, by omega⟩
        have hjb : jb < W.length := by omega
        obtain ⟨bw', ow', e', -, vb⟩ := HRW.out.int' hjb
        injection e' with e'
        injection e' with q1 q2
        subst q1 q2
        have hu := hr W[ja] (List.getElem_mem hja)
        have hv := hr W[jb] (List.getElem_mem hjb)
        have HE : Hid (R = ofW ⟨4, ja, (jb : Int), sc, so, sv, sl⟩ W[ja] W[jb]) := hid (by
          rw [HR.out]
          have e1 : W.getD ja 0 = W[ja] := by rw [List.getD_eq_getElem?_getD, List.getElem?_eq_getElem hja]; rfl
          have e2 : W.getD jb 0 = W[jb] := by rw [List.getD_eq_getElem?_getD, List.getElem?_eq_getElem hjb]; rfl
          have e3 : badStep ⟨4, ja, (jb : Int), sc, so, sv, sl⟩ ((W.length : Int) - 1) = false := by simp [badStep, twoB, hA, hB, hp]
          unfold stW
          simp only [e3, Int.toNat_natCast, e1]
          rw [if_neg (by omega), if_neg (by simp)]
          rw [e2])
        generalize W[ja] = u at *
        generalize W[jb] = v at *
        have HOF := hid (fun w1 (hbb : Below w.heap.size w w1) => of_any' ⟨⟨4, ja, (jb : Int), sc, so, sv, sl⟩, sA, sK⟩ u v w1 (by omega) (by omega) (HL.out.step hbb) hll)
        simp only [SR.cells] at HOF
        rw [← HE.out] at HOF
        obtain ⟨W1, hW1⟩ : ∃ W1 : World, W1 = w.alloc (.cells #[.int .i64 4, .int .i64 (ja : Int), .int .i64 (jb : Int), .int .i64 sc, .int .i64 so, .int .i64 sv, .slice sA sl.length sK] 49) := ⟨_, rfl⟩
        have HX := hid (show Blk W1 w.heap.size #[.int .i64 4, .int .i64 (ja : Int), .int .i64 (jb : Int), .int .i64 sc, .int .i64 so, .int .i64 sv, .slice sA sl.length sK] 49 by rw [hW1]; exact Blk.new _ _ _)
        have HB1 := hid (show Below w.heap.size w W1 by rw [hW1]; (repeat' (first | (with_reducible exact Below.refl _ _) | (with_reducible assumption) | (with_reducible refine below_drewN ?_ _) | (with_reducible refine Below.drew ?_) | (with_reducible refine Below.alloc ?_ ?_ _) | (with_reducible refine Below.setCell ?_ ?_ _) | (refine Below.trans ?_ (Below.mono (by assumption) ?_)) | go_size)))
        have va' := ((bcell HB1.out).1 bw _ hbw).trans va
        have vb' := ((bcell HB1.out).1 bw _ hbw).trans vb
        have hbw' : bw < W1.heap.size := Nat.lt_of_lt_of_le hbw HB1.out.size
        have hjal : (ja : Int) < (W.length : Int) := by omega
        have hjbl : (jb : Int) < (W.length : Int) := by omega
        have h0l : (0 : Int) < (W.length : Int) := by omega
        clear va vb hbw HR HE hA2 hB2
        go_enter Try.func89, Try.ntmps89
        go_wp2_with (go_at_call 99; refine (qwithin_any _ _ _ _).mono ?_; rintro e w' ⟨rfl, rfl⟩)
        rw [← hW1]
        clear hW1
        obtain ⟨cHX, fHX, sHX, nHX⟩ := HX.out.all
        try simp only [cbox] at cHX
        refine region_ext (by kernel_rfl) (by kernel_rfl) (fun hext => ?_)
        repeat (any_goals ((with_reducible refine wpQuiet_step (fun K hK => ?_)); go_simp; first | (with_reducible refine hK _ ?_; clear hK K) | ((with_reducible apply Exists.intro); (with_reducible refine ⟨fun _ => ?_, hK _ ?_⟩); ((go_at_call 100; (with_reducible refine ext_call _ ?_ (HOF.out _ (Below.step' HB1.out (Ext.below _)))); simp)); clear hK K) | ((with_reducible refine (if_neg ?_).mpr (hK _ ?_)); (decide); clear hK K) | (split <;> (with_reducible refine hK _ ?_; clear hK K))))
        all_goals ((with_reducible refine wpQuiet_nil ?_); clear hext; intro w1 hx1; have hb1 := ext_below hx1; clear hx1)
        have HB2 := hid (Below.step' HB1.out hb1)
        clear hb1
        go_wp2
        go_ret
        exact ⟨rfl, HB2.out⟩
      · have hp' : ((0 : Int) < (sl.length : Int)) = True := eq_true (by have := of_decide_eq_true hp; omega)
        go_enter Try.func89, Try.ntmps89
        go_wp2_with (go_at_call 99; refine (qwithin_any _ _ _ _).mono ?_; rintro e w' ⟨rfl, rfl⟩)
        go_ret
        exact ⟨ret_int (by rw [HR.out]; simp [stW, tblB, badStep, twoB, hA, hB, hp]), by (repeat' (first | (with_reducible exact Below.refl _ _) | (with_reducible assumption) | (with_reducible refine below_drewN ?_ _) | (with_reducible refine Below.drew ?_) | (with_reducible refine Below.alloc ?_ ?_ _) | (with_reducible refine Below.setCell ?_ ?_ _) | (refine Below.trans ?_ (Below.mono (by assumption) ?_)) | go_size))⟩
set_option maxHeartbeats 1000000 in
set_option maxRecDepth 100000 in
theorem width_k5 (sa sb sc so sv : Int) (sl : List Int) (sA : Option Addr) (sK : Nat) (W : List Int) (WA : Option Addr) (Wc : Nat) (w : World) (hl : Row w w.heap.size sA (icells' sl)) (hll : sl.length ≤ 9223372036854775807) (hW : Row w w.heap.size WA (icells' W)) (hW8 : W.length ≤ 8) (hr : ∀ v ∈ W, 1 ≤ v ∧ v ≤ 8) :
    Calls Try.prog 89 #[.agg #[.int .i64 5, .int .i64 sa, .int .i64 sb, .int .i64 sc, .int .i64 so, .int .i64 sv, .slice sA sl.length sK], .slice WA W.length Wc] w fun e w' => e = .returned (.int .i64 (stW ⟨5, sa, sb, sc, so, sv, sl⟩ W)) ∧ Below w.heap.size w w' := by
  obtain ⟨R, hR⟩ : ∃ R, R = stW ⟨5, sa, sb, sc, so, sv, sl⟩ W := ⟨_, rfl⟩
  rw [← hR]
  have HR := hid hR
  clear hR
  have HL := hid hl
  have HRW := hid hW
  clear hl hW
  have hwl : IntKind.i64.wrap ((W.length : Int) - 1) = (W.length : Int) - 1 := IntWalk.i64_in _ (by omega)
  cases hA : wiB sa 0 ((W.length : Int) - 1)
  · go_enter Try.func89, Try.ntmps89
    go_wp2_with (go_at_call 99; refine (qwithin_any _ _ _ _).mono ?_; rintro e w' ⟨rfl, rfl⟩)
    go_ret
    exact ⟨ret_int (by rw [HR.out]; simp [stW, tblB, badStep, twoB, hA]), by (repeat' (first | (with_reducible exact Below.refl _ _) | (with_reducible assumption) | (with_reducible refine below_drewN ?_ _) | (with_reducible refine Below.drew ?_) | (with_reducible refine Below.alloc ?_ ?_ _) | (with_reducible refine Below.setCell ?_ ?_ _) | (refine Below.trans ?_ (Below.mono (by assumption) ?_)) | go_size))⟩
  · cases hB : wiB sb 0 ((W.length : Int) - 1)
    · go_enter Try.func89, Try.ntmps89
      go_wp2_with (go_at_call 99; refine (qwithin_any _ _ _ _).mono ?_; rintro e w' ⟨rfl, rfl⟩)
      go_ret
      exact ⟨ret_int (by rw [HR.out]; simp [stW, tblB, badStep, twoB, hA, hB]), by (repeat' (first | (with_reducible exact Below.refl _ _) | (with_reducible assumption) | (with_reducible refine below_drewN ?_ _) | (with_reducible refine Below.drew ?_) | (with_reducible refine Below.alloc ?_ ?_ _) | (with_reducible refine Below.setCell ?_ ?_ _) | (refine Below.trans ?_ (Below.mono (by assumption) ?_)) | go_size))⟩
    · cases hp : decide (0 < sl.length)
      · have hp' : ((0 : Int) < (sl.length : Int)) = False := eq_false (by have := of_decide_eq_false hp; omega)
        have hA2 := wiB_iff.1 hA
        obtain ⟨ja, rfl⟩ : ∃ ja : Nat, sa = (ja : Int) := ⟨sa.toNat, by omega⟩
        have hja : ja < W.length := by omega
        obtain ⟨bw, ow, rfl, hbw, va⟩ := HRW.out.int' hja
        have hB2 := wiB_iff.1 hB
        obtain ⟨jb, rfl⟩ : ∃ jb : Nat, sb = (jb : Int) := ⟨sb.toNat, by omega⟩
        have hjb : jb < W.length := by omega
        obtain ⟨bw', ow', e', -, vb⟩ := HRW.out.int' hjb
        injection e' with e'
        injection e' with q1 q2
        subst q1 q2
        have hu := hr W[ja] (List.getElem_mem hja)
        have hv := hr W[jb] (List.getElem_mem hjb)
        have HE : Hid (R = ofW ⟨5, ja, (jb : Int), sc, so, sv, sl⟩ W[ja] W[jb]) := hid (by
          rw [HR.out]
          have e1 : W.getD ja 0 = W[ja] := by rw [List.getD_eq_getElem?_getD, List.getElem?_eq_getElem hja]; rfl
          have e2 : W.getD jb 0 = W[jb] := by rw [List.getD_eq_getElem?_getD, List.getElem?_eq_getElem hjb]; rfl
          have e3 : badStep ⟨5, ja, (jb : Int), sc, so, sv, sl⟩ ((W.length : Int) - 1) = false := by simp [badStep, twoB, hA, hB, hp]
          unfold stW
          simp only [e3, Int.toNat_natCast, e1]
          rw [if_neg (by omega), if_neg (by simp)]
          rw [e2])
        generalize W[ja] = u at *
        generalize W[jb] = v at *
        have HOF := hid (fun w1 (hbb : Below w.heap.size w w1) => of_any' ⟨⟨5, ja, (jb : Int), sc, so, sv, sl⟩, sA, sK⟩ u v w1 (by omega) (by omega) (HL.out.step hbb) hll)
        simp only [SR.cells] at HOF
        rw [← HE.out] at HOF
        obtain ⟨W1, hW1⟩ : ∃ W1 : World, W1 = w.alloc (.cells #[.int .i64 5, .int .i64 (ja : Int), .int .i64 (jb : Int), .int .i64 sc, .int .i64 so, .int .i64 sv, .slice sA sl.length sK] 49) := ⟨_, rfl⟩
        have HX := hid (show Blk W1 w.heap.size #[.int .i64 5, .int .i64 (ja : Int), .int .i64 (jb : Int), .int .i64 sc, .int .i64 so, .int .i64 sv, .slice sA sl.length sK] 49 by rw [hW1]; exact Blk.new _ _ _)
        have HB1 := hid (show Below w.heap.size w W1 by rw [hW1]; (repeat' (first | (with_reducible exact Below.refl _ _) | (with_reducible assumption) | (with_reducible refine below_drewN ?_ _) | (with_reducible refine Below.drew ?_) | (with_reducible refine Below.alloc ?_ ?_ _) | (with_reducible refine Below.setCell ?_ ?_ _) | (refine Below.trans ?_ (Below.mono (by assumption) ?_)) | go_size)))
        have va' := ((bcell HB1.out).1 bw _ hbw).trans va
        have vb' := ((bcell HB1.out).1 bw _ hbw).trans vb
        have hbw' : bw < W1.heap.size := Nat.lt_of_lt_of_le hbw HB1.out.size
        have hjal : (ja : Int) < (W.length : Int) := by omega
        have hjbl : (jb : Int) < (W.length : Int) := by omega
        have h0l : (0 : Int) < (W.length : Int) := by omega
        clear va vb hbw HR HE hA2 hB2
        go_enter Try.func89, Try.ntmps89
        go_wp2_with (go_at_call 99; refine (qwithin_any _ _ _ _).mono ?_; rintro e w' ⟨rfl, rfl⟩)
        rw [← hW1]
        clear hW1
        obtain ⟨cHX, fHX, sHX, nHX⟩ := HX.out.all
        try simp only [cbox] at cHX
        refine region_ext (by kernel_rfl) (by kernel_rfl) (fun hext => ?_)
        repeat (any_goals ((with_reducible refine wpQuiet_step (fun K hK => ?_)); go_simp; first | (with_reducible refine hK _ ?_; clear hK K) | ((with_reducible apply Exists.intro); (with_reducible refine ⟨fun _ => ?_, hK _ ?_⟩); ((go_at_call 100; (with_reducible refine ext_call _ ?_ (HOF.out _ (Below.step' HB1.out (Ext.below _)))); simp)); clear hK K) | ((with_reducible refine (if_neg ?_).mpr (hK _ ?_)); (decide); clear hK K) | (split <;> (with_reducible refine hK _ ?_; clear hK K))))
        all_goals ((with_reducible refine wpQuiet_nil ?_); clear hext; intro w1 hx1; have hb1 := ext_below hx1; clear hx1)
        have HB2 := hid (Below.step' HB1.out hb1)
        clear hb1
        go_wp2
        go_ret
        exact ⟨rfl, HB2.out⟩
      · have hp' : ((0 : Int) < (sl.length : Int)) = True := eq_true (by have := of_decide_eq_true hp; omega)
        go_enter Try.func89, Try.ntmps89
        go_wp2_with (go_at_call 99; refine (qwithin_any _ _ _ _).mono ?_; rintro e w' ⟨rfl, rfl⟩)
        go_ret
        exact ⟨ret_int (by rw [HR.out]; simp [stW, tblB, badStep, twoB, hA, hB, hp]), by (repeat' (first | (with_reducible exact Below.refl _ _) | (with_reducible assumption) | (with_reducible refine below_drewN ?_ _) | (with_reducible refine Below.drew ?_) | (with_reducible refine Below.alloc ?_ ?_ _) | (with_reducible refine Below.setCell ?_ ?_ _) | (refine Below.trans ?_ (Below.mono (by assumption) ?_)) | go_size))⟩
set_option maxHeartbeats 1000000 in
set_option maxRecDepth 100000 in
theorem width_k6 (sa sb sc so sv : Int) (sl : List Int) (sA : Option Addr) (sK : Nat) (W : List Int) (WA : Option Addr) (Wc : Nat) (w : World) (hl : Row w w.heap.size sA (icells' sl)) (hll : sl.length ≤ 9223372036854775807) (hW : Row w w.heap.size WA (icells' W)) (hW8 : W.length ≤ 8) (hr : ∀ v ∈ W, 1 ≤ v ∧ v ≤ 8) :
    Calls Try.prog 89 #[.agg #[.int .i64 6, .int .i64 sa, .int .i64 sb, .int .i64 sc, .int .i64 so, .int .i64 sv, .slice sA sl.length sK], .slice WA W.length Wc] w fun e w' => e = .returned (.int .i64 (stW ⟨6, sa, sb, sc, so, sv, sl⟩ W)) ∧ Below w.heap.size w w' := by
  obtain ⟨R, hR⟩ : ∃ R, R = stW ⟨6, sa, sb, sc, so, sv, sl⟩ W := ⟨_, rfl⟩
  rw [← hR]
  have HR := hid hR
  clear hR
  have HL := hid hl
  have HRW := hid hW
  clear hl hW
  have hwl : IntKind.i64.wrap ((W.length : Int) - 1) = (W.length : Int) - 1 := IntWalk.i64_in _ (by omega)
  cases hA : wiB sa 0 ((W.length : Int) - 1)
  · go_enter Try.func89, Try.ntmps89
    go_wp2_with (go_at_call 99; refine (qwithin_any _ _ _ _).mono ?_; rintro e w' ⟨rfl, rfl⟩)
    go_ret
    exact ⟨ret_int (by rw [HR.out]; simp [stW, tblB, badStep, twoB, hA]), by (repeat' (first | (with_reducible exact Below.refl _ _) | (with_reducible assumption) | (with_reducible refine below_drewN ?_ _) | (with_reducible refine Below.drew ?_) | (with_reducible refine Below.alloc ?_ ?_ _) | (with_reducible refine Below.setCell ?_ ?_ _) | (refine Below.trans ?_ (Below.mono (by assumption) ?_)) | go_size))⟩
  · cases hB : wiB sb 0 ((W.length : Int) - 1)
    · go_enter Try.func89, Try.ntmps89
      go_wp2_with (go_at_call 99; refine (qwithin_any _ _ _ _).mono ?_; rintro e w' ⟨rfl, rfl⟩)
      go_ret
      exact ⟨ret_int (by rw [HR.out]; simp [stW, tblB, badStep, twoB, hA, hB]), by (repeat' (first | (with_reducible exact Below.refl _ _) | (with_reducible assumption) | (with_reducible refine below_drewN ?_ _) | (with_reducible refine Below.drew ?_) | (with_reducible refine Below.alloc ?_ ?_ _) | (with_reducible refine Below.setCell ?_ ?_ _) | (refine Below.trans ?_ (Below.mono (by assumption) ?_)) | go_size))⟩
    · cases hp : decide (0 < sl.length)
      · have hp' : ((0 : Int) < (sl.length : Int)) = False := eq_false (by have := of_decide_eq_false hp; omega)
        have hA2 := wiB_iff.1 hA
        obtain ⟨ja, rfl⟩ : ∃ ja : Nat, sa = (ja : Int) := ⟨sa.toNat, by omega⟩
        have hja : ja < W.length := by omega
        obtain ⟨bw, ow, rfl, hbw, va⟩ := HRW.out.int' hja
        have hB2 := wiB_iff.1 hB
        obtain ⟨jb, rfl⟩ : ∃ jb : Nat, sb = (jb : Int) := ⟨sb.toNat, by omega⟩
        have hjb : jb < W.length := by omega
        obtain ⟨bw', ow', e', -, vb⟩ := HRW.out.int' hjb
        injection e' with e'
        injection e' with q1 q2
        subst q1 q2
        have hu := hr W[ja] (List.getElem_mem hja)
        have hv := hr W[jb] (List.getElem_mem hjb)
        have HE : Hid (R = ofW ⟨6, ja, (jb : Int), sc, so, sv, sl⟩ W[ja] W[jb]) := hid (by
          rw [HR.out]
          have e1 : W.getD ja 0 = W[ja] := by rw [List.getD_eq_getElem?_getD, List.getElem?_eq_getElem hja]; rfl
          have e2 : W.getD jb 0 = W[jb] := by rw [List.getD_eq_getElem?_getD, List.getElem?_eq_getElem hjb]; rfl
          have e3 : badStep ⟨6, ja, (jb : Int), sc, so, sv, sl⟩ ((W.length : Int) - 1) = false := by simp [badStep, twoB, hA, hB, hp]
          unfold stW
          simp only [e3, Int.toNat_natCast, e1]
          rw [if_neg (by omega), if_neg (by simp)]
          rw [e2])
        generalize W[ja] = u at *
        generalize W[jb] = v at *
        have HOF := hid (fun w1 (hbb : Below w.heap.size w w1) => of_any' ⟨⟨6, ja, (jb : Int), sc, so, sv, sl⟩, sA, sK⟩ u v w1 (by omega) (by omega) (HL.out.step hbb) hll)
        simp only [SR.cells] at HOF
        rw [← HE.out] at HOF
        obtain ⟨W1, hW1⟩ : ∃ W1 : World, W1 = w.alloc (.cells #[.int .i64 6, .int .i64 (ja : Int), .int .i64 (jb : Int), .int .i64 sc, .int .i64 so, .int .i64 sv, .slice sA sl.length sK] 49) := ⟨_, rfl⟩
        have HX := hid (show Blk W1 w.heap.size #[.int .i64 6, .int .i64 (ja : Int), .int .i64 (jb : Int), .int .i64 sc, .int .i64 so, .int .i64 sv, .slice sA sl.length sK] 49 by rw [hW1]; exact Blk.new _ _ _)
        have HB1 := hid (show Below w.heap.size w W1 by rw [hW1]; (repeat' (first | (with_reducible exact Below.refl _ _) | (with_reducible assumption) | (with_reducible refine below_drewN ?_ _) | (with_reducible refine Below.drew ?_) | (with_reducible refine Below.alloc ?_ ?_ _) | (with_reducible refine Below.setCell ?_ ?_ _) | (refine Below.trans ?_ (Below.mono (by assumption) ?_)) | go_size)))
        have va' := ((bcell HB1.out).1 bw _ hbw).trans va
        have vb' := ((bcell HB1.out).1 bw _ hbw).trans vb
        have hbw' : bw < W1.heap.size := Nat.lt_of_lt_of_le hbw HB1.out.size
        have hjal : (ja : Int) < (W.length : Int) := by omega
        have hjbl : (jb : Int) < (W.length : Int) := by omega
        have h0l : (0 : Int) < (W.length : Int) := by omega
        clear va vb hbw HR HE hA2 hB2
        go_enter Try.func89, Try.ntmps89
        go_wp2_with (go_at_call 99; refine (qwithin_any _ _ _ _).mono ?_; rintro e w' ⟨rfl, rfl⟩)
        rw [← hW1]
        clear hW1
        obtain ⟨cHX, fHX, sHX, nHX⟩ := HX.out.all
        try simp only [cbox] at cHX
        refine region_ext (by kernel_rfl) (by kernel_rfl) (fun hext => ?_)
        repeat (any_goals ((with_reducible refine wpQuiet_step (fun K hK => ?_)); go_simp; first | (with_reducible refine hK _ ?_; clear hK K) | ((with_reducible apply Exists.intro); (with_reducible refine ⟨fun _ => ?_, hK _ ?_⟩); ((go_at_call 100; (with_reducible refine ext_call _ ?_ (HOF.out _ (Below.step' HB1.out (Ext.below _)))); simp)); clear hK K) | ((with_reducible refine (if_neg ?_).mpr (hK _ ?_)); (decide); clear hK K) | (split <;> (with_reducible refine hK _ ?_; clear hK K))))
        all_goals ((with_reducible refine wpQuiet_nil ?_); clear hext; intro w1 hx1; have hb1 := ext_below hx1; clear hx1)
        have HB2 := hid (Below.step' HB1.out hb1)
        clear hb1
        go_wp2
        go_ret
        exact ⟨rfl, HB2.out⟩
      · have hp' : ((0 : Int) < (sl.length : Int)) = True := eq_true (by have := of_decide_eq_true hp; omega)
        go_enter Try.func89, Try.ntmps89
        go_wp2_with (go_at_call 99; refine (qwithin_any _ _ _ _).mono ?_; rintro e w' ⟨rfl, rfl⟩)
        go_ret
        exact ⟨ret_int (by rw [HR.out]; simp [stW, tblB, badStep, twoB, hA, hB, hp]), by (repeat' (first | (with_reducible exact Below.refl _ _) | (with_reducible assumption) | (with_reducible refine below_drewN ?_ _) | (with_reducible refine Below.drew ?_) | (with_reducible refine Below.alloc ?_ ?_ _) | (with_reducible refine Below.setCell ?_ ?_ _) | (refine Below.trans ?_ (Below.mono (by assumption) ?_)) | go_size))⟩
set_option maxHeartbeats 1000000 in
set_option maxRecDepth 100000 in
theorem width_k0 (sk sa sb sc so sv : Int) (sl : List Int) (sA : Option Addr) (sK : Nat) (W : List Int) (WA : Option Addr) (Wc : Nat) (w : World) (hl : Row w w.heap.size sA (icells' sl)) (hll : sl.length ≤ 9223372036854775807) (hW : Row w w.heap.size WA (icells' W)) (hW8 : W.length ≤ 8) (hr : ∀ v ∈ W, 1 ≤ v ∧ v ≤ 8) (hk : sk ≠ 1 ∧ sk ≠ 3 ∧ sk ≠ 4 ∧ sk ≠ 5 ∧ sk ≠ 6) :
    Calls Try.prog 89 #[.agg #[.int .i64 sk, .int .i64 sa, .int .i64 sb, .int .i64 sc, .int .i64 so, .int .i64 sv, .slice sA sl.length sK], .slice WA W.length Wc] w fun e w' => e = .returned (.int .i64 (stW ⟨sk, sa, sb, sc, so, sv, sl⟩ W)) ∧ Below w.heap.size w w' := by
  obtain ⟨R, hR⟩ : ∃ R, R = stW ⟨sk, sa, sb, sc, so, sv, sl⟩ W := ⟨_, rfl⟩
  rw [← hR]
  have HR := hid hR
  clear hR
  have HL := hid hl
  have HRW := hid hW
  clear hl hW
  have hwl : IntKind.i64.wrap ((W.length : Int) - 1) = (W.length : Int) - 1 := IntWalk.i64_in _ (by omega)
  obtain ⟨k1, k3, k4, k5, k6⟩ := hk
  have e1 : (sk == 1) = false := by simpa using k1
  have e3 : (sk == 3) = false := by simpa using k3
  have e4 : (sk == 4) = false := by simpa using k4
  have e5 : (sk == 5) = false := by simpa using k5
  have e6 : (sk == 6) = false := by simpa using k6
  cases hA : wiB sa 0 ((W.length : Int) - 1)
  · go_enter Try.func89, Try.ntmps89
    go_wp2_with (go_at_call 99; refine (qwithin_any _ _ _ _).mono ?_; rintro e w' ⟨rfl, rfl⟩)
    go_ret
    exact ⟨ret_int (by rw [HR.out]; simp [stW, tblB, badStep, twoB, hA, k1, k3, k4, k5, k6]), by (repeat' (first | (with_reducible exact Below.refl _ _) | (with_reducible assumption) | (with_reducible refine below_drewN ?_ _) | (with_reducible refine Below.drew ?_) | (with_reducible refine Below.alloc ?_ ?_ _) | (with_reducible refine Below.setCell ?_ ?_ _) | (refine Below.trans ?_ (Below.mono (by assumption) ?_)) | go_size))⟩
  · cases hn : (sb != 0)
    · have hn' : (sb == 0) = true := by rw [Bool.eq_iff_iff]; simpa using hn
      cases hp : decide (0 < sl.length)
      · have hp' : ((0 : Int) < (sl.length : Int)) = False := eq_false (by have := of_decide_eq_false hp; omega)
        have hA2 := wiB_iff.1 hA
        obtain ⟨ja, rfl⟩ : ∃ ja : Nat, sa = (ja : Int) := ⟨sa.toNat, by omega⟩
        have hja : ja < W.length := by omega
        obtain ⟨bw, ow, rfl, hbw, va⟩ := HRW.out.int' hja
        obtain rfl : sb = 0 := by simpa using hn
        obtain ⟨jb, hjb0⟩ : ∃ jb : Nat, jb = 0 := ⟨0, rfl⟩
        have hjb : jb < W.length := by omega
        obtain ⟨bw', ow', e', -, vb⟩ := HRW.out.int' hjb
        injection e' with e'
        injection e' with q1 q2
        subst q1 q2
        subst hjb0
        simp only [Nat.add_zero] at vb
        have hu := hr W[ja] (List.getElem_mem hja)
        have hv := hr W[0] (List.getElem_mem hjb)
        have HE : Hid (R = ofW ⟨sk, ja, 0, sc, so, sv, sl⟩ W[ja] W[0]) := hid (by
          rw [HR.out]
          have e1 : W.getD ja 0 = W[ja] := by rw [List.getD_eq_getElem?_getD, List.getElem?_eq_getElem hja]; rfl
          have e2 : W.getD 0 0 = W[0] := by rw [List.getD_eq_getElem?_getD, List.getElem?_eq_getElem hjb]; rfl
          have e3 : badStep ⟨sk, ja, 0, sc, so, sv, sl⟩ ((W.length : Int) - 1) = false := by simp [badStep, twoB, hA, hn, hp, k1, k3, k4, k5, k6]
          unfold stW
          simp only [e3, Int.toNat_natCast, e1]
          rw [if_neg (by omega), if_neg (by simp)]
          rw [show ((0 : Int)).toNat = 0 from rfl, e2])
        generalize W[ja] = u at *
        generalize W[0] = v at *
        have HOF := hid (fun w1 (hbb : Below w.heap.size w w1) => of_any' ⟨⟨sk, ja, 0, sc, so, sv, sl⟩, sA, sK⟩ u v w1 (by omega) (by omega) (HL.out.step hbb) hll)
        simp only [SR.cells] at HOF
        rw [← HE.out] at HOF
        obtain ⟨W1, hW1⟩ : ∃ W1 : World, W1 = w.alloc (.cells #[.int .i64 sk, .int .i64 (ja : Int), .int .i64 0, .int .i64 sc, .int .i64 so, .int .i64 sv, .slice sA sl.length sK] 49) := ⟨_, rfl⟩
        have HX := hid (show Blk W1 w.heap.size #[.int .i64 sk, .int .i64 (ja : Int), .int .i64 0, .int .i64 sc, .int .i64 so, .int .i64 sv, .slice sA sl.length sK] 49 by rw [hW1]; exact Blk.new _ _ _)
        have HB1 := hid (show Below w.heap.size w W1 by rw [hW1]; (repeat' (first | (with_reducible exact Below.refl _ _) | (with_reducible assumption) | (with_reducible refine below_drewN ?_ _) | (with_reducible refine Below.drew ?_) | (with_reducible refine Below.alloc ?_ ?_ _) | (with_reducible refine Below.setCell ?_ ?_ _) | (refine Below.trans ?_ (Below.mono (by assumption) ?_)) | go_size)))
        have va' := ((bcell HB1.out).1 bw _ hbw).trans va
        have vb' := ((bcell HB1.out).1 bw _ hbw).trans vb
        have hbw' : bw < W1.heap.size := Nat.lt_of_lt_of_le hbw HB1.out.size
        have hjal : (ja : Int) < (W.length : Int) := by omega
        have h0l : (0 : Int) < (W.length : Int) := by omega
        clear va vb hbw HR HE hA2
        go_enter Try.func89, Try.ntmps89
        go_wp2_with (go_at_call 99; refine (qwithin_any _ _ _ _).mono ?_; rintro e w' ⟨rfl, rfl⟩)
        rw [← hW1]
        clear hW1
        obtain ⟨cHX, fHX, sHX, nHX⟩ := HX.out.all
        try simp only [cbox] at cHX
        refine region_ext (by kernel_rfl) (by kernel_rfl) (fun hext => ?_)
        repeat (any_goals ((with_reducible refine wpQuiet_step (fun K hK => ?_)); go_simp; first | (with_reducible refine hK _ ?_; clear hK K) | ((with_reducible apply Exists.intro); (with_reducible refine ⟨fun _ => ?_, hK _ ?_⟩); ((go_at_call 100; (with_reducible refine ext_call _ ?_ (HOF.out _ (Below.step' HB1.out (Ext.below _)))); simp)); clear hK K) | ((with_reducible refine (if_neg ?_).mpr (hK _ ?_)); (decide); clear hK K) | (split <;> (with_reducible refine hK _ ?_; clear hK K))))
        all_goals ((with_reducible refine wpQuiet_nil ?_); clear hext; intro w1 hx1; have hb1 := ext_below hx1; clear hx1)
        have HB2 := hid (Below.step' HB1.out hb1)
        clear hb1
        go_wp2
        go_ret
        exact ⟨rfl, HB2.out⟩
      · have hp' : ((0 : Int) < (sl.length : Int)) = True := eq_true (by have := of_decide_eq_true hp; omega)
        go_enter Try.func89, Try.ntmps89
        go_wp2_with (go_at_call 99; refine (qwithin_any _ _ _ _).mono ?_; rintro e w' ⟨rfl, rfl⟩)
        go_ret
        exact ⟨ret_int (by rw [HR.out]; simp [stW, tblB, badStep, twoB, hA, hn, hp, k1, k3, k4, k5, k6]), by (repeat' (first | (with_reducible exact Below.refl _ _) | (with_reducible assumption) | (with_reducible refine below_drewN ?_ _) | (with_reducible refine Below.drew ?_) | (with_reducible refine Below.alloc ?_ ?_ _) | (with_reducible refine Below.setCell ?_ ?_ _) | (refine Below.trans ?_ (Below.mono (by assumption) ?_)) | go_size))⟩
    · have hn' : (sb == 0) = false := by rw [Bool.eq_false_iff]; simpa using hn
      go_enter Try.func89, Try.ntmps89
      go_wp2_with (go_at_call 99; refine (qwithin_any _ _ _ _).mono ?_; rintro e w' ⟨rfl, rfl⟩)
      go_ret
      exact ⟨ret_int (by rw [HR.out]; simp [stW, tblB, badStep, twoB, hA, hn, k1, k3, k4, k5, k6]), by (repeat' (first | (with_reducible exact Below.refl _ _) | (with_reducible assumption) | (with_reducible refine below_drewN ?_ _) | (with_reducible refine Below.drew ?_) | (with_reducible refine Below.alloc ?_ ?_ _) | (with_reducible refine Below.setCell ?_ ?_ _) | (refine Below.trans ?_ (Below.mono (by assumption) ?_)) | go_size))⟩

/-- query.width tells a step's width by those ahead. -/
theorem width_any' (x : SR) (W : List Int) (WA : Option Addr) (Wc : Nat) (w : World) (hl : Row w w.heap.size x.A (icells' x.st.list)) (hll : x.st.list.length ≤ 9223372036854775807) (hW : Row w w.heap.size WA (icells' W)) (hW8 : W.length ≤ 8) (hr : ∀ v ∈ W, 1 ≤ v ∧ v ≤ 8) :
    Calls Try.prog 89 #[.agg x.cells.toArray, .slice WA W.length Wc] w fun e w' => e = .returned (.int .i64 (stW x.st W)) ∧ Below w.heap.size w w' := by
  obtain ⟨⟨sk, sa, sb, sc, so, sv, sl⟩, sA, sK⟩ := x
  simp only at hl hll
  by_cases k1 : sk = 1
  · subst k1; exact width_k1 sa sb sc so sv sl sA sK W WA Wc w hl hll hW hW8 hr
  by_cases k3 : sk = 3
  · subst k3; exact width_k3 sa sb sc so sv sl sA sK W WA Wc w hl hll hW hW8 hr
  by_cases k4 : sk = 4
  · subst k4; exact width_k4 sa sb sc so sv sl sA sK W WA Wc w hl hll hW hW8 hr
  by_cases k5 : sk = 5
  · subst k5; exact width_k5 sa sb sc so sv sl sA sK W WA Wc w hl hll hW hW8 hr
  by_cases k6 : sk = 6
  · subst k6; exact width_k6 sa sb sc so sv sl sA sK W WA Wc w hl hll hW hW8 hr
  exact width_k0 sk sa sb sc so sv sl sA sK W WA Wc w hl hll hW hW8 hr ⟨k1, k3, k4, k5, k6⟩
end Go.Proofs.Ytmcdaibdpeeefaa
/- query.widths, query.Check. -/
namespace Go.Proofs.Ytmcdaibdpeeefaa
set_option linter.unusedVariables false
set_option linter.unusedSimpArgs false
open Go.ChangeShapes Go.WideShapes Go.ChangeAt Go.RowKit

theorem info_intQ : (Try.prog.info? 3).map (fun i => (i.zero, i.size, i.bytes)) = some (some (.int .i64 0), 1, 8) := by kernel_rfl
theorem icellsQ_snoc (l : List Int) (x : Int) : icells' (l ++ [x]) = icells' l ++ icells' [x] := by simp
theorem icellsQ_one (l : List Int) : ∀ u ∈ icells' l, u.oneCell' = true := by
  intro u hu
  obtain ⟨x, -, rfl⟩ := List.mem_map.1 hu
  rfl
theorem widsL_drop {L : List St} {i : Nat} (h : i < L.length) (V : List Int) : widsL (L.drop i) V = if stW L[i] V = 0 then none else widsL (L.drop (i + 1)) (V ++ [stW L[i] V]) := by
  rw [List.drop_eq_getElem_cons h, widsL]

/-- Widths of a call's own making, and an error. -/
def WidsPost (V : List Int) (x : Int) (w : World) (e : Ending) (w' : World) : Prop :=
  ∃ v, e = .returned (.tuple #[v, .int .i64 x]) ∧ w'.ownsRow w.heap.size 3 1 v V.length (icells' V) ∧ Below w.heap.size w w'
theorem widsPost_mk {V V' : List Int} {E x : Int} {w w' : World} {v : Value} (hx : E = x) (hV : V = V') (ho : w'.ownsRow w.heap.size 3 1 v V'.length (icells' V')) (hb : Below w.heap.size w w') : WidsPost V E w (.returned (.tuple #[v, .int .i64 x])) w' := by
  subst hx hV; exact ⟨v, rfl, ho, hb⟩

set_option maxHeartbeats 1000000 in
set_option maxRecDepth 100000 in
theorem widths_any (L : List SR) (A : Option Addr) (c : Nat) (w : World) (hr : RowS w w.heap.size A L) (hl : L.length ≤ 9223372036854775807) :
    Calls Try.prog 72 #[.slice A L.length c] w (WidsPost (queryW (sts L)) (queryE (sts L)) w) := by
  have HR := hid hr
  have HW := hid (show queryW (sts L) = if queryE (sts L) = 0 then (widsL (sts L) []).getD [] else [] from rfl)
  have HE := hid (show queryE (sts L) = if (sts L).length = 0 then 1 else if 8 < (sts L).length then 2 else if widsL (sts L) [] = none then 1 else 0 from rfl)
  obtain ⟨E, hE⟩ : ∃ q, q = queryE (sts L) := ⟨_, rfl⟩
  obtain ⟨X, hX⟩ : ∃ q, q = queryW (sts L) := ⟨_, rfl⟩
  rw [← hE, ← hX] at HW ⊢
  rw [← hE] at HE
  have hsl : (sts L).length = L.length := List.length_map ..
  rw [hsl] at HE
  obtain ⟨i1, hi0, hz0, hz1, hz2⟩ := info_parts info_intQ
  clear hE hX hr hsl
  have HN := hid (fun h : E ≠ 0 => show X = [] by rw [HW.out, if_neg h])
  by_cases h0 : L.length = 0
  · have t0 : ((L.length : Int) == 0) = true := by rw [h0]; rfl
    have HE1 := hid (show E = 1 by rw [HE.out, if_pos h0])
    clear h0
    go_enter Try.func72, Try.ntmps72
    go_wp2_with fail
    go_ret2
    exact widsPost_mk HE1.out (HN.out (by rw [HE1.out]; decide)) (World.ownsRow_nil _ _ _ _) (Below.refl _ _)
  have t0 : ((L.length : Int) == 0) = false := beq_eq_false_iff_ne.2 (by omega)
  by_cases h8 : 8 < L.length
  · have t8 : ((8 : Int) < (L.length : Int)) = True := eq_true (by omega)
    have HE1 := hid (show E = 2 by rw [HE.out, if_neg h0, if_pos h8])
    clear h0 h8
    go_enter Try.func72, Try.ntmps72
    go_wp2_with fail
    go_ret2
    exact widsPost_mk HE1.out (HN.out (by rw [HE1.out]; decide)) (World.ownsRow_nil _ _ _ _) (Below.refl _ _)
  have t8 : ((8 : Int) < (L.length : Int)) = False := eq_false (by omega)
  replace HE : Hid (E = if widsL (sts L) [] = none then 1 else 0) := hid (by rw [HE.out, if_neg h0, if_neg h8])
  have hl8 : L.length ≤ 8 := by omega
  clear h0 h8
  go_enter Try.func72, Try.ntmps72
  go_wp2_with fail
  -- STOP-a
  go_loopw [4, 18] (fun s4 s18 wr => ∃ (i : Nat) (V : List Int), i ≤ L.length ∧ s18 = .int .i64 i ∧ V.length = i ∧ Hid (widsL (sts L) [] = widsL ((sts L).drop i) V) ∧ Hid (∀ v ∈ V, 1 ≤ v ∧ v ≤ 8) ∧ Hid (wr.ownsRow w.heap.size 3 1 s4 V.length (icells' V)) ∧ Hid (Below w.heap.size w wr)) (fun _ s18 _ => L.length - (intOf s18).toNat)
  case atStart => exact ⟨0, [], by omega, rfl, rfl, hid rfl, hid (by simp), hid (World.ownsRow_nil _ _ _ _), hid (Below.refl _ _)⟩
  case round =>
    obtain ⟨i, V, hi, rfl, hVl, HWD, HVR, HOWN, HB⟩ := hrel
    obtain ⟨A4, c4, rfl⟩ := own_formS HOWN.out
    have HVL := hid hVl
    have hs := HB.out.size
    have hV8 : V.length ≤ 8 := by omega
    clear hVl
    by_cases hlt : i < L.length
    · obtain ⟨b, off, rfl, hb, e0, e1, e2, e3, e4, e5, e6⟩ := (HR.out.1.step HB.out).sr hlt
      obtain ⟨xl, xll⟩ := (HR.out.2.step HB.out) L[i] (List.getElem_mem hlt)
      have hil : i < (sts L).length := by rw [sts, List.length_map]; exact hlt
      have HSD := hid (show widsL (sts L) [] = if stW L[i].st V = 0 then none else widsL ((sts L).drop (i + 1)) (V ++ [stW L[i].st V]) by
        rw [HWD.out, widsL_drop hil]; simp [sts])
      have HWI := hid (fun w1 (hbb : Below wr.heap.size wr w1) => width_any' L[i] V A4 c4 w1 (xl.step hbb) xll ((Row.of_ownS HOWN.out).step hbb) hV8 HVR.out)
      have HSR := hid (fun h : stW L[i].st V ≠ 0 => stW_range HVR.out h)
      generalize L[i] = x at *
      obtain ⟨⟨sk, sa, sb, sc, so, sv, sl⟩, sA, sK⟩ := x
      simp only [SR.cells] at e0 e1 e2 e3 e4 e5 e6 HWI HSD HSR
      obtain ⟨n, hn⟩ : ∃ n, n = stW ⟨sk, sa, sb, sc, so, sv, sl⟩ V := ⟨_, rfl⟩
      rw [← hn] at HWI HSD HSR
      have hne : (b = wr.heap.size) = False := by simp; omega
      clear hn xl xll hil
      obtain ⟨wo, rfl⟩ : ∃ wx : World, wx = wr := ⟨_, rfl⟩
      by_cases q0 : n = 0
      · subst q0
        have HE1 := hid (show E = 1 by rw [HE.out, HSD.out, if_pos rfl, if_pos rfl])
        go_wp2_with fail
        -- STOP-b
        refine (HWI.out _ (by exact (Below.refl _ _).alloc (Nat.le_refl _) _)).mono ?_
        rintro e w1 ⟨rfl, hb1⟩
        have hB1 : Below wo.heap.size wo w1 := (by refine Below.step' ?_ hb1; (repeat' (first | (with_reducible exact Below.refl _ _) | (with_reducible assumption) | (with_reducible refine below_drewN ?_ _) | (with_reducible refine Below.drew ?_) | (with_reducible refine Below.alloc ?_ ?_ _) | (with_reducible refine Below.setCell ?_ ?_ _) | (refine Below.trans ?_ (Below.mono (by assumption) ?_)) | go_size)))
        have HB1 := hid hB1
        clear hb1 hB1
        go_wp2_with fail
        go_ret2
        exact widsPost_mk HE1.out (HN.out (by rw [HE1.out]; decide)) (World.ownsRow_nil _ _ _ _) (Below.step' HB.out HB1.out)
      · have t1 : (n == 0) = false := beq_eq_false_iff_ne.2 q0
        have HSN := hid (show widsL (sts L) [] = widsL ((sts L).drop (i + 1)) (V ++ [n]) by rw [HSD.out, if_neg q0])
        have HNR := hid (HSR.out q0)
        clear q0
        go_wp2_with fail
        -- STOP-c
        refine (HWI.out _ (by exact (Below.refl _ _).alloc (Nat.le_refl _) _)).mono ?_
        rintro e w1 ⟨rfl, hb1⟩
        have hB1 : Below wo.heap.size wo w1 := (by refine Below.step' ?_ hb1; (repeat' (first | (with_reducible exact Below.refl _ _) | (with_reducible assumption) | (with_reducible refine below_drewN ?_ _) | (with_reducible refine Below.drew ?_) | (with_reducible refine Below.alloc ?_ ?_ _) | (with_reducible refine Below.setCell ?_ ?_ _) | (refine Below.trans ?_ (Below.mono (by assumption) ?_)) | go_size)))
        have HB1 := hid hB1
        have hs1 := hB1.size
        have HO1 := hid (own_laterS HOWN.out hB1)
        clear hb1 hB1
        go_wp2_with (at_builtin; refine wpList_append_own _ rfl _ _ 26 rfl w.heap.size 3 i1 _ 1 8 Try.underlying26 hi0 hz0 hz1 hz2 rfl (by decide) _ _ _ rfl (HO1.out.alloc _) ⟨w1.heap.size, 0, none⟩ 1 1 (icells' [n]) rfl rfl (news_at _ [.int .i64 n] _ _ rfl) (icellsQ_one _) ?_ ?_ ?_ ?_; rotate_right; intro v6 w6 hown6 hg6 _; rotate_left; (simp only [maxLen]; omega); (omega); (simp; omega))
        -- STOP-d
        have HOW6 := hid hown6
        have HG6 := hid hg6
        clear hown6 hg6
        go_roundw
        case rel =>
          refine ⟨i + 1, V ++ [n], by omega, by go_num, by have := HVL.out; simp; omega, HSN, hid (fun v hv => ?_), hid ?_, hid (Below.grown (alloc_below (Below.step' HB.out HB1.out) _) HG6.out (by simp; omega) (fun g e => (HO1.out.lt g e).1))⟩
          · rcases List.mem_append.1 hv with q | q
            · exact HVR.out v q
            · rw [List.mem_singleton.1 q]; exact HNR.out
          · rw [icellsQ_snoc, List.length_append]
            simpa using HOW6.out
        case measure => simp [intOf]; omega
    · have hik : i = L.length := by omega
      have hdr : (sts L).drop i = [] := List.drop_eq_nil_of_le (by rw [sts, List.length_map]; omega)
      have HE0 := hid (show E = 0 by rw [HE.out, HWD.out, hdr, widsL, if_neg (by simp)])
      have HX0 := hid (show X = V by rw [HW.out, if_pos HE0.out, HWD.out, hdr, widsL]; rfl)
      clear hdr
      subst hik
      go_wp2_with fail
      -- STOP-e
      go_ret2
      exact widsPost_mk HE0.out HX0.out HOWN.out HB.out

set_option maxRecDepth 100000 in
theorem qcheck_any (L : List SR) (A : Option Addr) (c : Nat) (w : World) (hr : RowS w w.heap.size A L) (hl : L.length ≤ 9223372036854775807) :
    Calls Try.prog 51 #[.slice A L.length c] w fun e w' => e = .returned (.int .i64 (queryE (sts L))) ∧ Below w.heap.size w w' := by
  have HW := hid (widths_any L A c w hr hl)
  obtain ⟨E, hE⟩ : ∃ q, q = queryE (sts L) := ⟨_, rfl⟩
  rw [← hE] at HW ⊢
  clear hE hr
  go_enter Try.func51, Try.ntmps51
  go_wp2_with fail
  refine HW.out.mono ?_
  rintro e w1 ⟨v, rfl, -, hb1⟩
  have HB := hid hb1
  clear hb1
  go_wp2_with fail
  go_ret
  exact ⟨rfl, HB.out⟩
end Go.Proofs.Ytmcdaibdpeeefaa
/- plain.Holds, where, neg, pick. -/
namespace Go.Proofs.Ytmcdaibdpeeefaa
set_option linter.unusedVariables false
set_option linter.unusedSimpArgs false
open Go.ChangeShapes Go.WideShapes Go.ChangeAt Go.RowKit

theorem holds_any (op n v : Int) (w : World) :
    Calls Try.prog 98 #[.int .i64 op, .int .i64 n, .int .i64 v] w fun e w' => e = .returned (.bool (stHolds op n v)) ∧ w = w' := by
  obtain ⟨R, hR⟩ : ∃ R, R = stHolds op n v := ⟨_, rfl⟩
  rw [← hR]
  have HR := hid hR
  clear hR
  by_cases h1 : op = 1
  · have e1 : (op == 1) = true := by simp [h1]
    have HQ := hid h1
    clear h1
    go_enter Try.func98, Try.ntmps98
    go_wp2
    go_ret
    exact ⟨ret_bool (by rw [HR.out]; unfold stHolds; rw [if_pos HQ.out]), rfl⟩
  · have e1 : (op == 1) = false := by simp [h1]
    by_cases h2 : op = 2
    · have e2 : (op == 2) = true := by simp [h2]
      have HQ := hid h2
      have HP := hid h1
      clear h1 h2
      go_enter Try.func98, Try.ntmps98
      go_wp2
      go_ret
      exact ⟨ret_bool (by rw [HR.out]; unfold stHolds; rw [if_neg HP.out, if_pos HQ.out]; rfl), rfl⟩
    · have e2 : (op == 2) = false := by simp [h2]
      have HQ := hid h2
      have HP := hid h1
      clear h1 h2
      go_enter Try.func98, Try.ntmps98
      go_wp2
      go_ret
      exact ⟨ret_bool (by rw [HR.out]; unfold stHolds; rw [if_neg HP.out, if_neg HQ.out]), rfl⟩

/-- Items, wherever their rows lie. -/
def LiPost (S : List It) (w : World) (e : Ending) (w' : World) : Prop :=
  ∃ (A : Option Addr) (k : Nat) (M : List IR), e = .returned (.slice A M.length k) ∧ its M = S ∧ RowI w' w'.heap.size A M ∧ Below w.heap.size w w'
theorem rcells_app (M N : List IR) : rcells (M ++ N) = rcells M ++ rcells N := by rw [rcells, List.flatMap_append]

def whereM (s : St) (M : List IR) : List IR := M.filter (fun x => stHolds s.op (colD x.row s.col) s.val)
theorem whereM_its (s : St) (M : List IR) : its (whereM s M) = whereL s (its M) := by
  unfold whereM whereL its
  rw [List.filter_map]; rfl

set_option maxHeartbeats 1000000 in
set_option maxRecDepth 100000 in
theorem where_any (x : SR) (M : List IR) (A : Option Addr) (c : Nat) (w : World) (hr : RowI w w.heap.size A M) (hl : M.length ≤ 1048576) (hc : 0 ≤ x.st.col ∧ ∀ y ∈ M, x.st.col < (y.row.length : Int)) :
    Calls Try.prog 86 #[.agg x.cells.toArray, .slice A M.length c] w (LiPost (whereL x.st (its M)) w) := by
  obtain ⟨⟨sk, sa, sb, sc, so, sv, sl⟩, sA, sK⟩ := x
  simp only at hc
  obtain ⟨hc0, hc1⟩ := hc
  obtain ⟨j, rfl⟩ : ∃ j : Nat, sc = (j : Int) := ⟨sc.toNat, by omega⟩
  have HR := hid hr
  have HC := hid hc1
  obtain ⟨s, hs⟩ : ∃ s : St, s = ⟨sk, sa, sb, (j : Int), so, sv, sl⟩ := ⟨_, rfl⟩
  have HF := hid (fun i (hi : i < M.length) => show whereM s (M.take (i + 1)) = whereM s (M.take i) ++ (if stHolds so (colD M[i].row j) sv = true then [M[i]] else []) by
    unfold whereM
    rw [List.take_succ_eq_append_getElem hi, List.filter_append, List.filter_cons, List.filter_nil, hs])
  have HLe := hid (fun i => show (whereM s (M.take i)).length ≤ i from Nat.le_trans (List.length_filter_le _ _) (List.length_take_le _ _))
  have HIT := hid (whereM_its s M)
  have HSUB := hid (fun x (hx : x ∈ whereM s M) => show x ∈ M from (List.mem_filter.1 hx).1)
  have hw0 : whereM s (M.take 0) = [] := rfl
  have HW0 := hid hw0
  simp only [SR.cells]
  rw [← hs]
  clear hr hc1 hs hw0
  obtain ⟨W1, hW1⟩ : ∃ W1 : World, W1 = w.alloc (.cells #[.int .i64 sk, .int .i64 sa, .int .i64 sb, .int .i64 (j : Int), .int .i64 so, .int .i64 sv, .slice sA sl.length sK] 49) := ⟨_, rfl⟩
  have HX := hid (show Blk W1 w.heap.size #[.int .i64 sk, .int .i64 sa, .int .i64 sb, .int .i64 (j : Int), .int .i64 so, .int .i64 sv, .slice sA sl.length sK] 49 by rw [hW1]; exact Blk.new _ _ _)
  have HB1 := hid (show Below w.heap.size w W1 by rw [hW1]; (repeat' (first | (with_reducible exact Below.refl _ _) | (with_reducible assumption) | (with_reducible refine below_drewN ?_ _) | (with_reducible refine Below.drew ?_) | (with_reducible refine Below.alloc ?_ ?_ _) | (with_reducible refine Below.setCell ?_ ?_ _) | (refine Below.trans ?_ (Below.mono (by assumption) ?_)) | go_size)))
  have hs1 := HB1.out.size
  go_enter Try.func86, Try.ntmps86
  go_wp2_with fail
  rw [← hW1]
  clear hW1
  -- STOP-a
  go_loopw [5, 10] (fun s5 s10 wr => ∃ i : Nat, i ≤ M.length ∧ s10 = .int .i64 i ∧ Hid (wr.ownsRow W1.heap.size 28 2 s5 (whereM s (M.take i)).length (rcells (whereM s (M.take i)))) ∧ Hid (Below W1.heap.size W1 wr)) (fun _ s10 _ => M.length - (intOf s10).toNat)
  case atStart => exact ⟨0, by omega, rfl, hid (by rw [HW0.out]; exact World.ownsRow_nil _ _ _ _), hid (Below.refl _ _)⟩
  case round =>
    obtain ⟨i, hi, rfl, HOWN, HB⟩ := hrel
    obtain ⟨A5, c5, rfl⟩ := own_formS HOWN.out
    have hsw := HB.out.size
    have hOl := HLe.out i
    have HBW := hid (Below.step' HB1.out HB.out)
    by_cases hlt : i < M.length
    · obtain ⟨b, off, rfl, hb, e0, e1⟩ := (HR.out.1.step HBW.out).it hlt
      obtain ⟨xl, xll⟩ := (HR.out.2.step HBW.out) M[i] (List.getElem_mem hlt)
      have hcx := HC.out M[i] (List.getElem_mem hlt)
      have HFI := hid (HF.out i hlt)
      generalize M[i] = x at *
      obtain ⟨xr, xA, xk, xn⟩ := x
      simp only at e0 e1 xl xll hcx HFI
      have hj : j < xr.length := by omega
      obtain ⟨b2, o2, rfl, hb2, hv2⟩ := xl.int' hj
      have hcd : colD xr j = xr[j] := by unfold colD; rw [Int.toNat_natCast, List.getD_eq_getElem?_getD, List.getElem?_eq_getElem hj]; rfl
      rw [hcd] at HFI
      generalize xr[j] = u at *
      have HH := hid (fun w1 => holds_any so u sv w1)
      obtain ⟨hb0, hhb⟩ : ∃ q, q = stHolds so u sv := ⟨_, rfl⟩
      rw [← hhb] at HH HFI
      have hneb : (b = wr.heap.size) = False := by simp; omega
      have hneb2 : (b2 = wr.heap.size) = False := by simp; omega
      have hjl : (j : Int) < (xr.length : Int) := by omega
      obtain ⟨O, hO⟩ : ∃ O, O = whereM s (M.take i) := ⟨_, rfl⟩
      rw [← hO] at HOWN HFI hOl ⊢
      clear hcd hhb hO xl hcx
      obtain ⟨wo, rfl⟩ : ∃ wx : World, wx = wr := ⟨_, rfl⟩
      have HXO := hid (HX.out.step HB.out)
      obtain ⟨W2, hW2⟩ : ∃ W2 : World, W2 = wo.alloc (.cells #[.slice (some ⟨b2, o2, none⟩) xr.length xk, .int .i64 xn] 28) := ⟨_, rfl⟩
      have HX2 := hid (show Blk W2 wo.heap.size #[.slice (some ⟨b2, o2, none⟩) xr.length xk, .int .i64 xn] 28 by rw [hW2]; exact Blk.new _ _ _)
      have HBO := hid (show Below wo.heap.size wo W2 by rw [hW2]; exact alloc_below (Below.refl _ _) _)
      have HO2 := hid (show W2.ownsRow W1.heap.size 28 2 (.slice A5 O.length c5) O.length (rcells O) by rw [hW2]; exact HOWN.out.alloc _)
      replace HXO := hid (HXO.out.step HBO.out)
      have hv3 := ((bcell HBO.out).1 b2 _ hb2).trans hv2
      have hb3 : b2 < W2.heap.size := Nat.lt_of_lt_of_le hb2 HBO.out.size
      go_upto_region 5 with fail
      -- STOP-b
      rw [← hW2]
      clear hW2 hv2 e0 e1
      obtain ⟨cHXO, fHXO, sHXO, nHXO⟩ := HXO.out.all
      try simp only [cbox] at cHXO
      obtain ⟨cHX2, fHX2, sHX2, nHX2⟩ := HX2.out.all
      try simp only [cbox] at cHX2
      cases hb0
      · go_wp2_with fail
        refine wp_region_quiet_lit (by kernel_rfl) (by kernel_rfl) ?_
        repeat (any_goals ((with_reducible refine wpQuiet_step (fun K hK => ?_)); go_simp; first | (with_reducible refine hK _ ?_; clear hK K) | ((with_reducible apply Exists.intro); (with_reducible refine ⟨fun _ => ?_, hK _ ?_⟩); (go_at_call 98; exact (HH.out _).mono fun _ _ ⟨he, hb⟩ => ⟨he, _, hb.symm⟩); clear hK K) | ((with_reducible refine (if_neg ?_).mpr (hK _ ?_)); (decide); clear hK K) | (split <;> (with_reducible refine hK _ ?_; clear hK K))))
        all_goals ((with_reducible refine wpQuiet_nil ?_); intro _ hw'; obtain ⟨nq, hw''⟩ := hw'; subst hw'')
        go_wp2_with fail
        go_roundw
        case rel =>
          refine ⟨i + 1, by omega, by go_num, hid ?_, hid (below_drewN (HB.out.trans (HBO.out.mono hsw)) _)⟩
          rw [HFI.out, if_neg (by simp), List.append_nil]
          exact HO2.out
        case measure => simp [intOf]; omega
      · go_wp2_with fail
        refine wp_region_quiet_lit (by kernel_rfl) (by kernel_rfl) ?_
        repeat (any_goals ((with_reducible refine wpQuiet_step (fun K hK => ?_)); go_simp; first | (with_reducible refine hK _ ?_; clear hK K) | ((with_reducible apply Exists.intro); (with_reducible refine ⟨fun _ => ?_, hK _ ?_⟩); (go_at_call 98; exact (HH.out _).mono fun _ _ ⟨he, hb⟩ => ⟨he, _, hb.symm⟩); clear hK K) | ((with_reducible refine (if_neg ?_).mpr (hK _ ?_)); (decide); clear hK K) | (split <;> (with_reducible refine hK _ ?_; clear hK K))))
        all_goals ((with_reducible refine wpQuiet_nil ?_); intro _ hw'; obtain ⟨nq, hw''⟩ := hw'; subst hw'')
        have hone : ∀ u ∈ ([.slice (some ⟨b2, o2, none⟩) xr.length xk, .int .i64 xn] : List Value), u.oneCell' = true := by
          intro u hu
          simp only [List.mem_cons, List.not_mem_nil, or_false] at hu
          rcases hu with rfl | rfl <;> rfl
        go_wp2_with (at_builtin; refine wpList_append_row elem_item rfl _ _ rfl W1.heap.size _ _ _ rfl ((show (W2.drewN nq).ownsRow W1.heap.size 28 2 (.slice A5 O.length c5) O.length (rcells O) from HO2.out).alloc _) (some ⟨W2.heap.size, 0, none⟩) 1 1 (W2.heap.size + 1) [.slice (some ⟨b2, o2, none⟩) xr.length xk, .int .i64 xn] rfl rfl (by exact Row.new' (W2.drewN nq) _ _ rfl rfl (Nat.lt_succ_self _)) hone ?_ ?_ ?_ ?_; rotate_right; intro v7 w7 hown7 hg7 hif7; rotate_left; (simp only [maxLen]; omega); (omega); (have := HBO.out.size; simp; omega))
        -- STOP-c
        have HOW7 := hid hown7
        have HG7 := hid hg7
        clear hown7 hg7 hif7 hone
        go_roundw
        case rel =>
          refine ⟨i + 1, by omega, by go_num, hid ?_, hid (Below.grown (alloc_below (below_drewN (HB.out.trans (HBO.out.mono hsw)) _) _) HG7.out (by have := HBO.out.size; simp; omega) (fun g e => (HO2.out.lt g e).1))⟩
          rw [HFI.out, if_pos (by first | trivial | rfl), rcells_app, List.length_append]
          simpa using HOW7.out
        case measure => simp [intOf]; omega
    · have hik : i = M.length := by omega
      subst hik
      rw [List.take_length] at HOWN ⊢
      go_wp2_with fail
      go_ret
      refine ⟨A5, c5, whereM s M, rfl, HIT.out, ⟨Row.of_ownS HOWN.out, (HR.out.2.step HBW.out).sub HSUB.out⟩, HBW.out⟩
end Go.Proofs.Ytmcdaibdpeeefaa
