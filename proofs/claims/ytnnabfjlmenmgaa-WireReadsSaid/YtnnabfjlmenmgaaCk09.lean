/- WirR, Wr, Wm -/
import Derived.Test.YtnnabfjlmenmgaaCk07
import Derived.Test.YtnnabfjlmenmgaaCk08
import Derived.Deep.RegionHeld3
/- A number's bytes, as they are read one by one. No program in sight. -/
namespace Go.Proofs.Ytnnabfjlmenmgaa
set_option linter.unusedVariables false

/-- What the first k bytes say, seven bits each. -/
def low (l : List UInt8) : Nat → Nat
  | 0 => 0
  | k + 1 => low l k + ((l.getD k 0).toNat % 128) * 128 ^ k
theorem low_cons (b : UInt8) (l : List UInt8) : ∀ k, low (b :: l) (k + 1) = low l k * 128 + b.toNat % 128
  | 0 => by simp [low]
  | k + 1 => by
    rw [low, low_cons b l k, low]
    simp only [List.getD_cons_succ, Nat.pow_succ, Nat.add_mul, Nat.mul_assoc]
    omega
theorem low_lt (l : List UInt8) : ∀ k, low l k < 128 ^ k
  | 0 => by simp [low]
  | k + 1 => by
    have := low_lt l k
    have h2 : ((l.getD k 0).toNat % 128) * 128 ^ k ≤ 127 * 128 ^ k := Nat.mul_le_mul_right _ (by omega)
    rw [low, Nat.pow_succ]
    omega
theorem rd_low : ∀ (k f : Nat) (first : Bool) (l : List UInt8), k < l.length → k < f → (∀ j, j < k → 128 ≤ (l.getD j 0).toNat) → (l.getD k 0).toNat < 128 →
    rd f first l = if (l.getD k 0).toNat = 0 ∧ (0 < k ∨ first = false) then none else some (low l (k + 1), k + 1)
  | _, _, _, [], h, _, _, _ => by simp at h
  | _, 0, _, _, _, h, _, _ => by omega
  | 0, f + 1, first, b :: l, _, _, _, h => by
    simp only [List.getD_cons_zero] at h ⊢
    rw [rd, if_neg (by omega)]
    have e : low (b :: l) 1 = b.toNat := by rw [low_cons]; simp [low]; omega
    simp only [e, Nat.lt_irrefl, false_or, Nat.zero_add]
  | k + 1, f + 1, first, b :: l, hk, hf, hj, h => by
    simp only [List.getD_cons_succ] at h ⊢
    have hb := hj 0 (by omega)
    simp only [List.getD_cons_zero] at hb
    rw [rd, if_pos hb, rd_low k f false l (by simpa using hk) (by omega) (fun j q => by simpa using hj (j + 1) (by omega)) h]
    by_cases q : (l.getD k 0).toNat = 0
    · rw [if_pos ⟨q, .inr rfl⟩, if_pos ⟨q, .inl (by omega)⟩]; rfl
    · rw [if_neg (fun h => q h.1), if_neg (fun h => q h.1), low_cons]; rfl
theorem rd_none : ∀ (f : Nat) (first : Bool) (l : List UInt8), (∀ j, j < f → j < l.length → 128 ≤ (l.getD j 0).toNat) → rd f first l = none
  | 0, _, _, _ => rfl
  | _ + 1, _, [], _ => rfl
  | f + 1, first, b :: l, h => by
    have hb := h 0 (by omega) (by simp)
    simp only [List.getD_cons_zero] at hb
    rw [rd, if_pos hb, rd_none f false l (fun j q1 q2 => by simpa using h (j + 1) (by omega) (by simpa using q2))]
    rfl
/-- A number at a place of bytes: as far as its k-th byte all say that more follows. -/
theorem readN_low {l : List UInt8} {k : Nat} (h1 : k < l.length) (h2 : k < 9) (h3 : ∀ j, j < k → 128 ≤ (l.getD j 0).toNat) (h4 : (l.getD k 0).toNat < 128) :
    readN l = if (l.getD k 0).toNat = 0 ∧ 0 < k then none else some (zig (low l (k + 1)), k + 1) := by
  unfold readN
  rw [rd_low k 9 true l h1 h2 h3 h4]
  by_cases q : (l.getD k 0).toNat = 0 ∧ 0 < k
  · rw [if_pos q, if_pos ⟨q.1, .inl q.2⟩]; rfl
  · rw [if_neg q, if_neg]
    · rfl
    · rintro ⟨a, b | b⟩
      · exact q ⟨a, b⟩
      · cases b
theorem readN_none {l : List UInt8} (h : ∀ j, j < 9 → j < l.length → 128 ≤ (l.getD j 0).toNat) : readN l = none := by
  unfold readN; rw [rd_none 9 true l h]; rfl
theorem getD_drop (l : List UInt8) (a j : Nat) : (l.drop a).getD j 0 = l.getD (a + j) 0 := by
  rw [List.getD_eq_getElem?_getD, List.getD_eq_getElem?_getD, List.getElem?_drop]
/-- Seven bits more. -/
theorem or_add {u v k : Nat} (h : u < 128 ^ k) : u ||| (v * 128 ^ k) = u + v * 128 ^ k := by
  have e : (128 : Nat) ^ k = 2 ^ (7 * k) := by rw [Nat.pow_mul]
  rw [e] at h ⊢
  rw [Nat.or_comm, ← Nat.shiftLeft_eq, ← Nat.shiftLeft_add_eq_or_of_lt h, Nat.add_comm]
end Go.Proofs.Ytnnabfjlmenmgaa
/- wire's reader: number, many. -/
namespace Go.Proofs.Ytnnabfjlmenmgaa
set_option linter.unusedVariables false
set_option linter.unusedSimpArgs false
open Go.ChangeShapes Go.WideShapes Go.ChangeAt Go.RowKit

/-- A reader's cells. -/
abbrev rbox (L : List UInt8) (a : Nat) (wr : Bool) : Array Value := #[.string (bstr L), .int .i64 (a : Int), .bool wr]
/-- Where a reader is, if nothing was wrong. -/
def RSt (L : List UInt8) (st : Option Nat) (a : Nat) (wr : Bool) : Prop := a ≤ L.length ∧ ((st = some a ∧ wr = false) ∨ (st = none ∧ wr = true))
theorem RSt.wrong {L : List UInt8} {a : Nat} (h : a ≤ L.length) : RSt L none a true := ⟨h, .inr ⟨rfl, rfl⟩⟩
theorem RSt.right {L : List UInt8} {a : Nat} (h : a ≤ L.length) : RSt L (some a) a false := ⟨h, .inl ⟨rfl, rfl⟩⟩
/-- What a reading call leaves. -/
def RPost (L : List UInt8) (rb : Nat) (n : Int) (st : Option Nat) (w : World) (e : Ending) (w' : World) : Prop :=
  ∃ (a : Nat) (wr : Bool), e = .returned (.int .i64 n) ∧ Blk w' rb (rbox L a wr) 64 ∧ RSt L st a wr ∧ w.grownBy w' (some rb)
theorem grownR_refl (w : World) (row : Option Nat) : w.grownBy w row := ⟨rfl, rfl, rfl, Nat.le_refl _, fun _ _ _ => rfl⟩
theorem grownR_trans {w w1 w2 : World} {row : Option Nat} (h1 : w.grownBy w1 row) (h2 : w1.grownBy w2 row) : w.grownBy w2 row :=
  ⟨h2.os.trans h1.os, h2.tape.trans h1.tape, h2.output.trans h1.output, Nat.le_trans h1.size h2.size, fun k hk hne => (h2.block k (Nat.lt_of_lt_of_le hk h1.size) hne).trans (h1.block k hk hne)⟩
theorem grownR_setN (w : World) (n rb o : Nat) (v : Value) : w.grownBy ((w.drewN n).setCell ⟨rb, o, none⟩ v) (some rb) := by
  refine ⟨rfl, rfl, rfl, by simp [World.setCell], fun k hk hne => ?_⟩
  simp only [World.setCell, Array.getElem?_modify]
  rw [if_neg (fun e => hne (by rw [e]))]
  rfl
theorem grownR_set (w : World) (rb o : Nat) (v : Value) : w.grownBy (w.setCell ⟨rb, o, none⟩ v) (some rb) := by
  refine ⟨rfl, rfl, rfl, by simp [World.setCell], fun k hk hne => ?_⟩
  simp only [World.setCell, Array.getElem?_modify]
  rw [if_neg (fun e => hne (by rw [e]))]
set_option maxRecDepth 100000 in
theorem and127 : ∀ x : Fin 256, bits BinOp.and IntKind.u8 (x.val : Int) 127 = (x.val : Int) % 128 := by decide
theorem and127' (b : UInt8) : bits BinOp.and IntKind.u8 (b.toNat : Int) 127 = ((b.toNat % 128 : Nat) : Int) := by
  have h := and127 ⟨b.toNat, b8_lt b⟩
  simp only at h
  rw [h]; omega
theorem bits_or64 (a b : Nat) (ha : a < 18446744073709551616) (hb : b < 18446744073709551616) : bits .or .u64 (a : Int) (b : Int) = ((a ||| b : Nat) : Int) := by
  have hx : a ||| b < 2 ^ 64 := Nat.or_lt_two_pow (by omega) (by omega)
  have h1 : (BitVec.ofInt 64 (a : Int)).toNat = a := by
    rw [BitVec.ofInt_natCast, BitVec.toNat_ofNat]; exact Nat.mod_eq_of_lt (by omega)
  have h2 : (BitVec.ofInt 64 (b : Int)).toNat = b := by
    rw [BitVec.ofInt_natCast, BitVec.toNat_ofNat]; exact Nat.mod_eq_of_lt (by omega)
  show IntKind.u64.wrap ((BitVec.ofInt 64 (a : Int) ||| BitVec.ofInt 64 (b : Int)).toNat : Int) = _
  rw [BitVec.toNat_or, h1, h2]
  have : IntKind.u64.wrap ((a ||| b : Nat) : Int) = ((a ||| b : Nat) : Int) % 18446744073709551616 := by simp [IntKind.wrap, IntKind.bits, IntKind.signed]
  rw [this]
  omega

theorem wrapU64 (n : Int) : IntKind.u64.wrap n = n % 18446744073709551616 := by simp [IntKind.wrap, IntKind.bits, IntKind.signed]
theorem bits_and64 (a b : Nat) (ha : a < 18446744073709551616) (hb : b < 18446744073709551616) : bits .and .u64 (a : Int) (b : Int) = ((a &&& b : Nat) : Int) := by
  have hx : a &&& b < 2 ^ 64 := Nat.and_lt_two_pow _ (by omega)
  have h1 : (BitVec.ofInt 64 (a : Int)).toNat = a := by
    rw [BitVec.ofInt_natCast, BitVec.toNat_ofNat]; exact Nat.mod_eq_of_lt (by omega)
  have h2 : (BitVec.ofInt 64 (b : Int)).toNat = b := by
    rw [BitVec.ofInt_natCast, BitVec.toNat_ofNat]; exact Nat.mod_eq_of_lt (by omega)
  show IntKind.u64.wrap ((BitVec.ofInt 64 (a : Int) &&& BitVec.ofInt 64 (b : Int)).toNat : Int) = _
  rw [BitVec.toNat_and, h1, h2, wrapU64]
  omega
theorem low_step (D : List UInt8) (i : Nat) (b : UInt8) (h : b = D.getD i 0) (hi : i < 9) :
    bits BinOp.or .u64 (low D i : Int) (IntKind.u64.wrap (IntKind.u64.wrap (bits BinOp.and .u8 (b.toNat : Int) 127) * 2 ^ (7 * i))) = ((low D (i + 1) : Nat) : Int) := by
  have h1 := low_lt D i
  have h2 : (128 : Nat) ^ i ≤ 128 ^ 8 := Nat.pow_le_pow_right (by omega) (by omega)
  have h8 : (128 : Nat) ^ 8 = 72057594037927936 := by decide
  have h3 : b.toNat % 128 * 128 ^ i ≤ 127 * 128 ^ 8 := Nat.mul_le_mul (by omega) h2
  have e1 : IntKind.u64.wrap ((b.toNat % 128 : Nat) : Int) = ((b.toNat % 128 : Nat) : Int) := by rw [wrapU64]; omega
  have e2 : ((b.toNat % 128 : Nat) : Int) * 2 ^ (7 * i) = ((b.toNat % 128 * 128 ^ i : Nat) : Int) := by
    rw [Int.natCast_mul, Int.natCast_pow, Int.pow_mul]; rfl
  have e3 : IntKind.u64.wrap ((b.toNat % 128 * 128 ^ i : Nat) : Int) = ((b.toNat % 128 * 128 ^ i : Nat) : Int) := by rw [wrapU64]; omega
  rw [and127', e1, e2, e3, bits_or64 _ _ (by omega) (by omega), or_add h1, low, ← h]

set_option maxHeartbeats 1000000 in
set_option maxRecDepth 100000 in
theorem rnumber_any (L : List UInt8) (hL : L.length ≤ 9223372036854775807) (st : Option Nat) (a : Nat) (wr : Bool) (rb : Nat) (w : World) (hb : Blk w rb (rbox L a wr) 64) (hs : RSt L st a wr) :
    Calls Try.prog 37 #[.pointer (some ⟨rb, 0, none⟩)] w (RPost L rb (nx L st).1 (nx L st).2 w) := by
  have hsz := bstr_size L
  have HX := hid hb
  have hrl := hb.lt
  obtain ⟨hal, hst⟩ := hs
  rcases hst with ⟨rfl, rfl⟩ | ⟨rfl, rfl⟩
  rotate_left
  · go_enter Try.func37, Try.ntmps37
    go_wp2_with fail
    -- STOP-a
    refine wp_loop_rounds 1 ?_
    rw [rounds_succ]
    obtain ⟨cHX, fHX, sHX, nHX⟩ := HX.out.all
    try simp only [cbox] at cHX
    go_wp2_with fail
    refine wp_region_quiet_lit (by kernel_rfl) (by kernel_rfl) ?_
    repeat (any_goals ((with_reducible refine wpQuiet_step (fun K hK => ?_)); go_simp; first | (with_reducible refine hK _ ?_; clear hK K) | ((with_reducible apply Exists.intro); (with_reducible refine ⟨fun _ => ?_, hK _ ?_⟩); (fail); clear hK K) | ((with_reducible refine (if_neg ?_).mpr (hK _ ?_)); (decide); clear hK K) | (split <;> (with_reducible refine hK _ ?_; clear hK K))))
    all_goals ((with_reducible refine wpQuiet_nil ?_); intro _ hw'; obtain ⟨nq, hw''⟩ := hw'; subst hw'')
    all_goals
      go_wp2_with fail
      -- STOP-b
      go_ret
      exact ⟨a, true, rfl, HX.out.set 2 (.bool true), RSt.wrong hal, grownR_setN _ _ _ _ _⟩
  · have HNX := hid (show ∀ n k, readN (L.drop a) = some (n, k) → nx L (some a) = (n, some (a + k)) from fun n k h => by simp only [nx]; rw [h])
    have HNN := hid (show readN (L.drop a) = none → nx L (some a) = (0, none) from fun h => by simp only [nx]; rw [h])
    obtain ⟨R, hR⟩ : ∃ q, q = nx L (some a) := ⟨_, rfl⟩
    rw [← hR] at HNX HNN ⊢
    have HLD := hid (fun j => getD_drop L a j)
    have HDL := hid (List.length_drop (i := a) (l := L))
    obtain ⟨D, hD⟩ : ∃ q, q = L.drop a := ⟨_, rfl⟩
    rw [← hD] at HNX HNN HLD HDL
    clear hR hD
    go_enter Try.func37, Try.ntmps37
    go_wp2_with fail
    -- STOP-c
    go_loopw [3, 6] (fun s3 s6 wr => ∃ i : Nat, i ≤ 9 ∧ s6 = .int .i64 i ∧ s3 = .int .u64 (low D i : Int) ∧ a + i ≤ L.length ∧ Hid (∀ j, j < i → 128 ≤ (D.getD j 0).toNat) ∧ Hid (Blk wr rb (rbox L (a + i) false) 64) ∧ Hid (w.grownBy wr (some rb))) (fun _ s6 _ => 9 - (intOf s6).toNat)
    case atStart => exact ⟨0, by omega, rfl, rfl, by omega, hid (fun j h => by omega), HX, hid (grownR_refl _ _)⟩
    case round =>
      obtain ⟨i, hi, rfl, rfl, hai, HJ, HXR, HG⟩ := hrel
      have hdl := HDL.out
      by_cases h9 : i < 9
      · have t9 : ((i : Int) < 9) = True := eq_true (by omega)
        obtain ⟨p, hp⟩ : ∃ p, p = a + i := ⟨_, rfl⟩
        rw [← hp] at HXR hai
        by_cases hlt : p < L.length
        · have tl : ((p : Int) == (L.length : Int)) = false := beq_eq_false_iff_ne.2 (by omega)
          have HIX := hid (bstr_get L p hlt)
          have HGD := hid (show L[p] = D.getD i 0 by rw [HLD.out i, ← hp, List.getD_eq_getElem?_getD, List.getElem?_eq_getElem hlt]; rfl)
          have HPP := hid hp
          clear hp
          generalize L[p] = b at *
          have hb := b8_lt b
          have hgi := HIX.out
          have tlt : ((p : Int) < (L.length : Int)) = True := eq_true (by omega)
          obtain ⟨wo, rfl⟩ : ∃ wx : World, wx = wr := ⟨_, rfl⟩
          obtain ⟨cHXR, fHXR, sHXR, nHXR⟩ := HXR.out.all
          try simp only [cbox] at cHXR
          go_wp2_with fail
          refine wp_region_quiet_lit (by kernel_rfl) (by kernel_rfl) ?_
          repeat (any_goals ((with_reducible refine wpQuiet_step (fun K hK => ?_)); go_simp; first | (with_reducible refine hK _ ?_; clear hK K) | ((with_reducible apply Exists.intro); (with_reducible refine ⟨fun _ => ?_, hK _ ?_⟩); (fail); clear hK K) | ((with_reducible refine (if_neg ?_).mpr (hK _ ?_)); (decide); clear hK K) | (split <;> (with_reducible refine hK _ ?_; clear hK K))))
          all_goals ((with_reducible refine wpQuiet_nil ?_); intro _ hw'; obtain ⟨nq, hw''⟩ := hw'; subst hw'')
          all_goals
            have hu := low_step D i b HGD.out h9
            have hU := low_lt D (i + 1)
            have hp9 : (128 : Nat) ^ (i + 1) ≤ 128 ^ 9 := Nat.pow_le_pow_right (by omega) (by omega)
            have h9e : (128 : Nat) ^ 9 = 9223372036854775808 := by decide
            have hUU : low D (i + 1) < 9223372036854775808 := by omega
            clear hU hp9 h9e
            obtain ⟨U, hUq⟩ : ∃ U, U = low D (i + 1) := ⟨_, rfl⟩
            rw [← hUq] at hu hUU
            have HU := hid hUq
            clear hUq
            have hXS := hid (fun n : Nat => ((HXR.out.drewN n).set 1 (.int .i64 ((p : Int) + 1))))
            by_cases hb8 : 128 ≤ b.toNat
            · have tb : (128 ≤ (b.toNat : Int)) = True := eq_true (by omega)
              have HB8 := hid hb8
              clear hb8
              go_wp2_with fail
              refine wp_region_quiet_lit (by kernel_rfl) (by kernel_rfl) ?_
              repeat (any_goals ((with_reducible refine wpQuiet_step (fun K hK => ?_)); go_simp; first | (with_reducible refine hK _ ?_; clear hK K) | ((with_reducible apply Exists.intro); (with_reducible refine ⟨fun _ => ?_, hK _ ?_⟩); (fail); clear hK K) | ((with_reducible refine (if_neg ?_).mpr (hK _ ?_)); (decide); clear hK K) | (split <;> (with_reducible refine hK _ ?_; clear hK K))))
              all_goals ((with_reducible refine wpQuiet_nil ?_); intro _ hw'; obtain ⟨nq, hw''⟩ := hw'; subst hw'')
              all_goals
                go_wp2_with fail
                -- STOP-d
                go_roundw
                case rel =>
                  refine ⟨i + 1, by omega, by go_num, by rw [HU.out], by have := HPP.out; omega, hid (fun j hj => ?_), hid ?_, hid (grownR_trans HG.out (grownR_setN _ _ _ _ _))⟩
                  · by_cases q : j < i
                    · exact HJ.out j q
                    · have : j = i := by omega
                      subst this
                      rw [← HGD.out]; exact HB8.out
                  · have e : ((p : Int) + 1) = ((a + (i + 1) : Nat) : Int) := by have := HPP.out; omega
                    show Blk _ rb #[.string (bstr L), .int .i64 ((a + (i + 1) : Nat) : Int), .bool false] _
                    rw [← e]
                    exact hXS.out _
                case measure => simp [intOf]; omega
            · have tb : (128 ≤ (b.toNat : Int)) = False := eq_false (by omega)
              have HRD := hid (readN_low (l := D) (k := i) (by have := HPP.out; omega) h9 HJ.out (by rw [← HGD.out]; omega))
              rw [← HGD.out] at HRD
              have hhead : HDL.out = HDL.out := rfl
              clear hhead
              by_cases hz : b.toNat = 0 ∧ 0 < i
              · have tz : ((b.toNat : Int) == 0) = true := by simp [hz.1]
                have tz2 : (0 < (i : Int)) = True := eq_true (by omega)
                have tz3 : (0 < i) = True := eq_true hz.2
                have HN := hid (HNN.out (by rw [HRD.out, if_pos hz]))
                clear hz
                go_wp2_with fail
                refine wp_region_quiet_lit (by kernel_rfl) (by kernel_rfl) ?_
                repeat (any_goals ((with_reducible refine wpQuiet_step (fun K hK => ?_)); go_simp; first | (with_reducible refine hK _ ?_; clear hK K) | ((with_reducible apply Exists.intro); (with_reducible refine ⟨fun _ => ?_, hK _ ?_⟩); (fail); clear hK K) | ((with_reducible refine (if_neg ?_).mpr (hK _ ?_)); (decide); clear hK K) | (split <;> (with_reducible refine hK _ ?_; clear hK K))))
                all_goals ((with_reducible refine wpQuiet_nil ?_); intro _ hw'; obtain ⟨nq, hw''⟩ := hw'; subst hw'')
                all_goals
                  go_wp2_with fail
                  -- STOP-e
                  go_ret
                  rw [HN.out]
                  exact ⟨p + 1, true, rfl, (hXS.out _).set 2 (.bool true), RSt.wrong (by omega), grownR_trans HG.out (grownR_trans (grownR_setN _ _ _ _ _) (grownR_set _ _ _ _))⟩
              · have HN := hid (HNX.out _ _ (by rw [HRD.out, if_neg hz]))
                have ha1 : bits .and .u64 (U : Int) 1 = ((U % 2 : Nat) : Int) := by rw [← Nat.and_one_is_mod]; exact bits_and64 U 1 (by omega) (by omega)
                have hw1 : IntKind.i64.wrap ((U : Int) / 2) = (U : Int) / 2 := IntWalk.i64_in _ (by omega)
                have HRS := hid (show R = (zig U, some (p + 1)) by rw [HN.out, ← HU.out]; have := HPP.out; congr 2; omega)
                have hzc : ((b.toNat : Int) == 0) = false ∨ ((b.toNat : Int) == 0) = true ∧ (0 < i) = False := by
                  by_cases q : b.toNat = 0
                  · refine .inr ⟨by simp [q], eq_false fun h => hz ⟨q, h⟩⟩
                  · refine .inl (beq_eq_false_iff_ne.2 (by omega))
                clear hz HN
                by_cases ho : U % 2 = 1
                · have HO := hid (show zig U = -((U : Int) / 2) - 1 by unfold zig; rw [if_pos ho]; omega)
                  rw [ho] at ha1
                  replace ha1 : bits .and .u64 (U : Int) 1 = 1 := ha1
                  clear ho
                  rcases hzc with tz | ⟨tz, tz3⟩
                  all_goals
                    go_wp2_with fail
                    refine wp_region_quiet_lit (by kernel_rfl) (by kernel_rfl) ?_
                    repeat (any_goals ((with_reducible refine wpQuiet_step (fun K hK => ?_)); go_simp; first | (with_reducible refine hK _ ?_; clear hK K) | ((with_reducible apply Exists.intro); (with_reducible refine ⟨fun _ => ?_, hK _ ?_⟩); (fail); clear hK K) | ((with_reducible refine (if_neg ?_).mpr (hK _ ?_)); (decide); clear hK K) | (split <;> (with_reducible refine hK _ ?_; clear hK K))))
                    all_goals ((with_reducible refine wpQuiet_nil ?_); intro _ hw'; obtain ⟨nq, hw''⟩ := hw'; subst hw'')
                    all_goals
                      go_wp2_with fail
                      -- STOP-f
                      go_ret
                      rw [HRS.out]
                      exact ⟨p + 1, false, by rw [HO.out]; rfl, hXS.out _, RSt.right (by omega), grownR_trans HG.out (grownR_setN _ _ _ _ _)⟩
                · have HO := hid (show zig U = (U : Int) / 2 by unfold zig; rw [if_neg ho]; omega)
                  rw [show U % 2 = 0 by omega] at ha1
                  replace ha1 : bits .and .u64 (U : Int) 1 = 0 := ha1
                  clear ho
                  rcases hzc with tz | ⟨tz, tz3⟩
                  all_goals
                    go_wp2_with fail
                    refine wp_region_quiet_lit (by kernel_rfl) (by kernel_rfl) ?_
                    repeat (any_goals ((with_reducible refine wpQuiet_step (fun K hK => ?_)); go_simp; first | (with_reducible refine hK _ ?_; clear hK K) | ((with_reducible apply Exists.intro); (with_reducible refine ⟨fun _ => ?_, hK _ ?_⟩); (fail); clear hK K) | ((with_reducible refine (if_neg ?_).mpr (hK _ ?_)); (decide); clear hK K) | (split <;> (with_reducible refine hK _ ?_; clear hK K))))
                    all_goals ((with_reducible refine wpQuiet_nil ?_); intro _ hw'; obtain ⟨nq, hw''⟩ := hw'; subst hw'')
                    all_goals
                      go_wp2_with fail
                      -- STOP-g
                      go_ret
                      rw [HRS.out]
                      exact ⟨p + 1, false, by rw [HO.out]; rfl, hXS.out _, RSt.right (by omega), grownR_trans HG.out (grownR_setN _ _ _ _ _)⟩
        · have hpl : p = L.length := by omega
          have tl : ((p : Int) == (L.length : Int)) = true := by simp [hpl]
          have HN := hid (HNN.out (readN_none (fun j h1 h2 => HJ.out j (by omega))))
          have hpl2 := hpl
          clear hpl hp
          obtain ⟨wo, rfl⟩ : ∃ wx : World, wx = wr := ⟨_, rfl⟩
          have HPL := hid hpl2
          clear hpl2
          obtain ⟨cHXR, fHXR, sHXR, nHXR⟩ := HXR.out.all
          try simp only [cbox] at cHXR
          go_wp2_with fail
          refine wp_region_quiet_lit (by kernel_rfl) (by kernel_rfl) ?_
          repeat (any_goals ((with_reducible refine wpQuiet_step (fun K hK => ?_)); go_simp; first | (with_reducible refine hK _ ?_; clear hK K) | ((with_reducible apply Exists.intro); (with_reducible refine ⟨fun _ => ?_, hK _ ?_⟩); (fail); clear hK K) | ((with_reducible refine (if_neg ?_).mpr (hK _ ?_)); (decide); clear hK K) | (split <;> (with_reducible refine hK _ ?_; clear hK K))))
          all_goals ((with_reducible refine wpQuiet_nil ?_); intro _ hw'; obtain ⟨nq, hw''⟩ := hw'; subst hw'')
          all_goals
            go_wp2_with fail
            -- STOP-h
            go_ret
            rw [HN.out]
            exact ⟨p, true, rfl, HXR.out.set 2 (.bool true), RSt.wrong hai, grownR_trans HG.out (grownR_setN _ _ _ _ _)⟩
      · have hi9 : i = 9 := by omega
        subst hi9
        have HN := hid (HNN.out (readN_none (fun j h1 h2 => HJ.out j h1)))
        obtain ⟨cHXR, fHXR, sHXR, nHXR⟩ := HXR.out.all
        try simp only [cbox] at cHXR
        go_wp2_with fail
        -- STOP-i
        go_ret
        rw [HN.out]
        exact ⟨a + 9, true, rfl, HXR.out.set 2 (.bool true), RSt.wrong hai, grownR_trans HG.out (grownR_set _ _ _ _)⟩
end Go.Proofs.Ytnnabfjlmenmgaa
/- wire's reader: many. -/
namespace Go.Proofs.Ytnnabfjlmenmgaa
set_option linter.unusedVariables false
set_option linter.unusedSimpArgs false
open Go.ChangeShapes Go.WideShapes Go.ChangeAt Go.RowKit

theorem mn_low {L : List UInt8} {st : Option Nat} (h : (nx L st).1 < 0 ∨ 400 < (nx L st).1) : mn L st = (0, none) := by unfold mn; rw [if_pos h]
theorem mn_ok {L : List UInt8} {st : Option Nat} (h : ¬((nx L st).1 < 0 ∨ 400 < (nx L st).1)) : mn L st = ((nx L st).1.toNat, (nx L st).2) := by unfold mn; rw [if_neg h]
theorem mn_le (L : List UInt8) (st : Option Nat) : (mn L st).1 ≤ 400 := by
  by_cases h : (nx L st).1 < 0 ∨ 400 < (nx L st).1
  · rw [mn_low h]; simp
  · rw [mn_ok h]; simp only; omega
set_option maxHeartbeats 1000000 in
set_option maxRecDepth 100000 in
theorem rmany_any (L : List UInt8) (hL : L.length ≤ 9223372036854775807) (st : Option Nat) (a : Nat) (wr : Bool) (rb : Nat) (w : World) (hb : Blk w rb (rbox L a wr) 64) (hs : RSt L st a wr) :
    Calls Try.prog 38 #[.pointer (some ⟨rb, 0, none⟩)] w (RPost L rb ((mn L st).1 : Int) (mn L st).2 w) := by
  have HN := hid (rnumber_any L hL st a wr rb w hb hs)
  have HL := hid (@mn_low L st)
  have HK := hid (@mn_ok L st)
  obtain ⟨⟨n, s⟩, hR⟩ : ∃ q, q = nx L st := ⟨_, rfl⟩
  obtain ⟨R, hR2⟩ : ∃ q, q = mn L st := ⟨_, rfl⟩
  rw [← hR] at HN HL HK
  rw [← hR2] at HL HK ⊢
  simp only at HN HL HK
  clear hR hR2
  go_enter Try.func38, Try.ntmps38
  go_wp2_with fail
  refine HN.out.mono ?_
  rintro e w1 ⟨a1, r1, rfl, hb1, hs1, hg1⟩
  have HB1 := hid hb1
  have HG1 := hid hg1
  have HS1 := hid hs1
  have hal := hs1.1
  clear hb1 hg1 hs1 HN hb
  by_cases q0 : n < 0
  · have t1 : (n < 0) = True := eq_true q0
    have HR := hid (HL.out (.inl q0))
    clear q0
    obtain ⟨cHB1, fHB1, sHB1, nHB1⟩ := HB1.out.all
    try simp only [cbox] at cHB1
    go_wp2_with fail
    -- STOP-a
    go_ret
    rw [HR.out]
    exact ⟨a1, true, rfl, HB1.out.set 2 (.bool true), RSt.wrong hal, grownR_trans HG1.out (grownR_set _ _ _ _)⟩
  · by_cases q4 : 400 < n
    · have t1 : (n < 0) = False := eq_false q0
      have t2 : (400 < n) = True := eq_true q4
      have HR := hid (HL.out (.inr q4))
      clear q0 q4
      obtain ⟨cHB1, fHB1, sHB1, nHB1⟩ := HB1.out.all
      try simp only [cbox] at cHB1
      go_wp2_with fail
      go_ret
      rw [HR.out]
      exact ⟨a1, true, rfl, HB1.out.set 2 (.bool true), RSt.wrong hal, grownR_trans HG1.out (grownR_set _ _ _ _)⟩
    · have t1 : (n < 0) = False := eq_false q0
      have t2 : (400 < n) = False := eq_false q4
      have HR := hid (HK.out (by omega))
      have HNN := hid (show ((n.toNat : Nat) : Int) = n by omega)
      clear q0 q4
      go_wp2_with fail
      go_ret
      rw [HR.out]
      exact ⟨a1, r1, by simp only [HNN.out]; rfl, HB1.out, HS1.out, HG1.out⟩

theorem grownR_store {w w1 : World} {row : Option Nat} (h : w.grownBy w1 row) {b : Nat} (hb : w.heap.size ≤ b) (o : Nat) (v : Value) : w.grownBy (w1.setCell ⟨b, o, none⟩ v) row := by
  refine ⟨h.os, h.tape, h.output, by simp only [World.setCell, Array.size_modify]; exact h.size, fun k hk hne => ?_⟩
  simp only [World.setCell, Array.getElem?_modify]
  rw [if_neg (by omega)]
  exact h.block k hk hne
theorem grownR_alloc {w w1 : World} {row : Option Nat} (h : w.grownBy w1 row) (o : Obj) : w.grownBy (w1.alloc o) row := by
  refine ⟨h.os, h.tape, h.output, by have := h.size; simp; omega, fun k hk hne => ?_⟩
  rw [Below.heap_alloc w1 o k (Nat.lt_of_lt_of_le hk h.size)]
  exact h.block k hk hne
theorem grownR_own {w w1 w2 : World} {row r : Option Nat} (h : w.grownBy w1 row) (hg : w1.grownBy w2 r) (hr : ∀ g, r = some g → w.heap.size ≤ g) : w.grownBy w2 row :=
  ⟨hg.os.trans h.os, hg.tape.trans h.tape, hg.output.trans h.output, Nat.le_trans h.size hg.size, fun k hk hne => (hg.block k (Nat.lt_of_lt_of_le hk h.size) (fun e => by have := hr k e.symm; omega)).trans (h.block k hk hne)⟩
end Go.Proofs.Ytnnabfjlmenmgaa
