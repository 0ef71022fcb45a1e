/- Bst, WirP, Wa, Wb, Ws, WirQ -/
import Derived.WalkKit
import Derived.IntWalk
import Derived.Test.YtnnabfjlmenmgaaRows
import Derived.Test.YtnnabfjlmenmgaaCk01
import Derived.Laws.IdiomStrings
import Derived.Laws.Concat
import Derived.Deep.CutRange
import Derived.Deep.CutBlock
import Derived.Laws.DeepStrings4
import Derived.Test.YtnnabfjlmenmgaaCk05
/- Lists of bytes as strings. No program in sight. -/
namespace Go.Proofs.Ytnnabfjlmenmgaa
abbrev bstr (l : List UInt8) : ByteArray := ⟨l.toArray⟩
theorem bstr_app (a b : List UInt8) : bstr a ++ bstr b = bstr (a ++ b) := by
  apply ByteArray.ext
  rw [ByteArray.data_append]
  simp
theorem bstr_size (a : List UInt8) : (bstr a).size = a.length := rfl
end Go.Proofs.Ytnnabfjlmenmgaa
/- Numbers as bytes, and the sum of bytes: plain words. No program in sight. -/
namespace Go.Proofs.Ytnnabfjlmenmgaa
set_option linter.unusedVariables false

/-! numbers -/
/-- A number's bytes: seven bits each, the last one below 128. -/
def numU (u : Nat) : List UInt8 := if u < 128 then [UInt8.ofNat u] else UInt8.ofNat (128 + u % 128) :: numU (u / 128)
termination_by u
decreasing_by omega
theorem numU_small {u : Nat} (h : u < 128) : numU u = [UInt8.ofNat u] := by rw [numU, if_pos h]
theorem numU_big {u : Nat} (h : 128 ≤ u) : numU u = UInt8.ofNat (128 + u % 128) :: numU (u / 128) := by rw [numU, if_neg (by omega)]
theorem b8_of (n : Nat) (h : n < 256) : (UInt8.ofNat n).toNat = n := by rw [UInt8.toNat_ofNat']; exact Nat.mod_eq_of_lt h
theorem b8_lt (b : UInt8) : b.toNat < 256 := b.toNat_lt
theorem b8_to (b : UInt8) : UInt8.ofNat b.toNat = b := UInt8.ofNat_toNat
/-- The number that bytes begin with, and how many bytes; at most f of them. -/
def rd : Nat → Bool → List UInt8 → Option (Nat × Nat)
  | 0, _, _ => none
  | _ + 1, _, [] => none
  | f + 1, first, b :: l => if 128 ≤ b.toNat then (rd f false l).map (fun p => (p.1 * 128 + b.toNat % 128, p.2 + 1)) else if b.toNat = 0 ∧ first = false then none else some (b.toNat, 1)
theorem rd_numU : ∀ (f u : Nat) (first : Bool) (rest : List UInt8), u < 128 ^ (f + 1) → (first = true ∨ 0 < u) → rd (f + 1) first (numU u ++ rest) = some (u, (numU u).length)
  | f, u, first, rest, hu, h0 => by
    by_cases h : u < 128
    · rw [numU_small h, List.singleton_append, rd, if_neg (by rw [b8_of u (by omega)]; omega), b8_of u (by omega), if_neg]
      · rfl
      · rintro ⟨e1, e2⟩
        rcases h0 with h0 | h0
        · rw [e2] at h0; cases h0
        · omega
    · cases f with
      | zero => omega
      | succ f =>
        rw [numU_big (by omega), List.cons_append, rd, if_pos (by rw [b8_of _ (by omega)]; omega), b8_of _ (by omega),
          rd_numU f (u / 128) false rest (by rw [Nat.pow_succ] at hu; omega) (.inr (by omega))]
        simp only [Option.map_some, List.length_cons]
        congr 2
        omega
theorem rd_canon : ∀ (f : Nat) (first : Bool) (l : List UInt8) (u k : Nat), rd f first l = some (u, k) → (∃ rest, l = numU u ++ rest) ∧ k = (numU u).length ∧ u < 128 ^ f ∧ (first = false → 0 < u)
  | 0, _, _, _, _, h => by simp [rd] at h
  | _ + 1, _, [], _, _, h => by simp [rd] at h
  | f + 1, first, b :: l, u, k, h => by
    have hb := b8_lt b
    rw [rd] at h
    by_cases h1 : 128 ≤ b.toNat
    · rw [if_pos h1] at h
      cases e : rd f false l with
      | none => rw [e] at h; simp at h
      | some p =>
        obtain ⟨u', k'⟩ := p
        rw [e] at h
        simp only [Option.map_some, Option.some.injEq, Prod.mk.injEq] at h
        obtain ⟨⟨rest, q1⟩, q2, q3, q4⟩ := rd_canon f false l u' k' e
        have q5 := q4 rfl
        obtain ⟨rfl, rfl⟩ := h
        rw [numU_big (by omega), show (u' * 128 + b.toNat % 128) / 128 = u' by omega, show 128 + (u' * 128 + b.toNat % 128) % 128 = b.toNat by omega, b8_to]
        refine ⟨⟨rest, by rw [q1]; rfl⟩, by rw [List.length_cons, q2], by rw [Nat.pow_succ]; omega, fun _ => by omega⟩
    · rw [if_neg h1] at h
      by_cases h2 : b.toNat = 0 ∧ first = false
      · rw [if_pos h2] at h; cases h
      · rw [if_neg h2] at h
        simp only [Option.some.injEq, Prod.mk.injEq] at h
        obtain ⟨rfl, rfl⟩ := h
        rw [numU_small (by omega), b8_to]
        refine ⟨⟨l, rfl⟩, rfl, ?_, fun e => ?_⟩
        · rw [Nat.pow_succ]
          have : 1 ≤ 128 ^ f := Nat.pos_of_ne_zero (by simp)
          omega
        · have : ¬ (b.toNat = 0) := fun q => h2 ⟨q, e⟩
          omega
theorem rd_more {f : Nat} {first : Bool} {l : List UInt8} {u k : Nat} (h : rd f first l = some (u, k)) (more : List UInt8) : rd f first (l ++ more) = some (u, k) := by
  obtain ⟨⟨rest, rfl⟩, rfl, q3, q4⟩ := rd_canon f first l u k h
  cases f with
  | zero => simp [rd] at h
  | succ f =>
    rw [List.append_assoc]
    refine rd_numU f u first _ q3 ?_
    cases first with
    | true => exact .inl rfl
    | false => exact .inr (q4 rfl)
def unz (n : Int) : Nat := if n < 0 then (-2 * n - 1).toNat else (2 * n).toNat
def zig (u : Nat) : Int := if u % 2 = 1 then -((u / 2 : Nat) : Int) - 1 else ((u / 2 : Nat) : Int)
theorem zig_unz (n : Int) : zig (unz n) = n := by
  unfold zig unz
  by_cases h : n < 0
  · simp only [if_pos h]
    rw [if_pos (by omega)]
    omega
  · simp only [if_neg h]
    rw [if_neg (by omega)]
    omega
theorem unz_zig (u : Nat) : unz (zig u) = u := by
  unfold zig unz
  by_cases h : u % 2 = 1
  · simp only [if_pos h]
    rw [if_pos (by omega)]
    omega
  · simp only [if_neg h]
    rw [if_neg (by omega)]
    omega
def clampN (n : Int) : Int := max (min n 2305843009213693952) (-2305843009213693952)
/-- A number's bytes. -/
def numB (n : Int) : List UInt8 := numU (unz (clampN n))
/-- The number that bytes begin with. -/
def readN (l : List UInt8) : Option (Int × Nat) := (rd 9 true l).map fun p => (zig p.1, p.2)
theorem unz_lt {n : Int} (h1 : -2305843009213693952 ≤ n) (h2 : n ≤ 2305843009213693952) : unz n < 128 ^ 9 := by
  unfold unz
  rw [show (128 : Nat) ^ 9 = 9223372036854775808 from by decide]
  split <;> omega
theorem clampN_in {n : Int} (h1 : -2305843009213693952 ≤ n) (h2 : n ≤ 2305843009213693952) : clampN n = n := by unfold clampN; omega
theorem clampN_le (n : Int) : -2305843009213693952 ≤ clampN n ∧ clampN n ≤ 2305843009213693952 := by unfold clampN; omega
theorem readN_numB {n : Int} (h1 : -2305843009213693952 ≤ n) (h2 : n ≤ 2305843009213693952) (rest : List UInt8) : readN (numB n ++ rest) = some (n, (numB n).length) := by
  unfold readN numB
  rw [clampN_in h1 h2, rd_numU 8 (unz n) true rest (unz_lt h1 h2) (.inl rfl), Option.map_some, zig_unz]
theorem readN_canon {l : List UInt8} {n : Int} {k : Nat} (h : readN l = some (n, k)) : (∃ rest, l = numU (unz n) ++ rest) ∧ k = (numU (unz n)).length := by
  unfold readN at h
  cases e : rd 9 true l with
  | none => rw [e] at h; simp at h
  | some p =>
    obtain ⟨u, k'⟩ := p
    rw [e] at h
    simp only [Option.map_some, Option.some.injEq, Prod.mk.injEq] at h
    obtain ⟨rfl, rfl⟩ := h
    obtain ⟨q1, q2, -⟩ := rd_canon 9 true l u k' e
    rw [unz_zig]
    exact ⟨q1, q2⟩
theorem readN_more {l : List UInt8} {n : Int} {k : Nat} (h : readN l = some (n, k)) (more : List UInt8) : readN (l ++ more) = some (n, k) := by
  unfold readN at h ⊢
  cases e : rd 9 true l with
  | none => rw [e] at h; simp at h
  | some p =>
    rw [e] at h
    rw [rd_more e more]
    exact h
theorem numU_pos (u : Nat) : 0 < (numU u).length := by rw [numU]; split <;> simp
theorem readN_le {l : List UInt8} {n : Int} {k : Nat} (h : readN l = some (n, k)) : 0 < k ∧ k ≤ l.length := by
  obtain ⟨⟨rest, rfl⟩, rfl⟩ := readN_canon h
  exact ⟨numU_pos _, by simp⟩

/-! the sum -/
def crcBit (n : Nat) : Nat := if n % 2 = 1 then (n / 2) ^^^ 3988292384 else n / 2
def crcBits : Nat → Nat → Nat
  | 0, n => n
  | k + 1, n => crcBit (crcBits k n)
def crcByte (n : Nat) (b : UInt8) : Nat := crcBits 8 (n ^^^ b.toNat)
def sumN (l : List UInt8) : Nat := l.foldl crcByte 4294967295
def sumB (l : List UInt8) : Nat := 4294967295 - sumN l
/-- A bit at a time, as a division. -/
def crcDiv (b : Nat) : Nat → Nat → Nat
  | 0, r => r
  | k + 1, r => if (crcDiv b k r) % 2 ≠ (b >>> k) % 2 then (crcDiv b k r / 2) ^^^ 3988292384 else crcDiv b k r / 2
theorem xor_mod2 (x y : Nat) : (x ^^^ y) % 2 = 1 ↔ x % 2 ≠ y % 2 := by
  have h := Nat.testBit_xor x y 0
  simp only [Nat.testBit_zero] at h
  have hx : x % 2 = 0 ∨ x % 2 = 1 := by omega
  have hy : y % 2 = 0 ∨ y % 2 = 1 := by omega
  have hz : (x ^^^ y) % 2 = 0 ∨ (x ^^^ y) % 2 = 1 := by omega
  rcases hx with a | a <;> rcases hy with b | b <;> rcases hz with c | c <;> simp [a, b, c] at h ⊢
theorem xor_half (x y : Nat) : (x ^^^ y) / 2 = x / 2 ^^^ y / 2 := by
  have := Nat.shiftRight_xor_distrib (a := x) (b := y) (i := 1)
  rw [Nat.shiftRight_eq_div_pow, Nat.shiftRight_eq_div_pow, Nat.shiftRight_eq_div_pow] at this
  simpa using this
theorem crc_same (n b : Nat) : ∀ k, crcBits k (n ^^^ b) = crcDiv b k n ^^^ (b >>> k)
  | 0 => by simp [crcBits, crcDiv]
  | k + 1 => by
    rw [crcBits, crc_same n b k, crcBit, crcDiv, Nat.shiftRight_succ]
    by_cases h : (crcDiv b k n) % 2 ≠ (b >>> k) % 2
    · rw [if_pos ((xor_mod2 _ _).2 h), if_pos h, xor_half, Nat.xor_assoc, Nat.xor_assoc, Nat.xor_comm (b >>> k / 2)]
    · rw [if_neg (fun e => h ((xor_mod2 _ _).1 e)), if_neg h, xor_half]
theorem crcByte_div (n : Nat) (b : UInt8) : crcByte n b = crcDiv b.toNat 8 n := by
  have hb := b8_lt b
  rw [crcByte, crc_same, Nat.shiftRight_eq_div_pow, Nat.div_eq_of_lt (by omega), Nat.xor_zero]
theorem crcBit_lt {n : Nat} (h : n < 4294967296) : crcBit n < 4294967296 := by
  unfold crcBit
  split
  · exact Nat.xor_lt_two_pow (n := 32) (by omega) (by decide)
  · omega
theorem crcBits_lt {n : Nat} (h : n < 4294967296) : ∀ k, crcBits k n < 4294967296
  | 0 => h
  | k + 1 => crcBit_lt (crcBits_lt h k)
theorem crcByte_lt {n : Nat} (h : n < 4294967296) (b : UInt8) : crcByte n b < 4294967296 := crcBits_lt (Nat.xor_lt_two_pow (n := 32) h (by have := b8_lt b; omega)) 8
theorem foldl_crc_lt : ∀ (l : List UInt8) (n : Nat), n < 4294967296 → l.foldl crcByte n < 4294967296
  | [], n, h => h
  | b :: l, n, h => foldl_crc_lt l _ (crcByte_lt h b)
theorem sumN_lt (l : List UInt8) : sumN l < 4294967296 := foldl_crc_lt l _ (by decide)
theorem sumB_lt (l : List UInt8) : sumB l < 4294967296 := by unfold sumB; omega
theorem crcDiv_lt {n : Nat} (h : n < 4294967296) (b : Nat) : ∀ k, crcDiv b k n < 4294967296
  | 0 => h
  | k + 1 => by
    have := crcDiv_lt h b k
    rw [crcDiv]
    split
    · exact Nat.xor_lt_two_pow (n := 32) (by omega) (by decide)
    · omega
/-- The sum's bytes. -/
def sum4 (n : Nat) : List UInt8 := [UInt8.ofNat (n % 256), UInt8.ofNat (n / 256 % 256), UInt8.ofNat (n / 65536 % 256), UInt8.ofNat (n / 16777216 % 256)]
end Go.Proofs.Ytnnabfjlmenmgaa
/- wire.Number, wire.Sum, and the document's. -/
namespace Go.Proofs.Ytnnabfjlmenmgaa
set_option linter.unusedVariables false
set_option linter.unusedSimpArgs false
open Go.ChangeShapes Go.WideShapes Go.ChangeAt Go.RowKit

abbrev bcells (l : List UInt8) : List Value := l.map (fun b => Value.int .u8 (b.toNat : Int))
theorem bcells_one (l : List UInt8) : ∀ u ∈ bcells l, u.oneCell' = true := by
  intro u hu
  obtain ⟨b, -, rfl⟩ := List.mem_map.1 hu
  rfl
theorem bcells_app (a b : List UInt8) : bcells (a ++ b) = bcells a ++ bcells b := List.map_append
theorem bcells_len (a : List UInt8) : (bcells a).length = a.length := List.length_map ..
theorem elem_byte : Elem Try.prog 47 5 1 1 := ⟨Try.underlying47, by
  obtain ⟨i, hi, hz, hs, hb⟩ := info_parts (P := Try.prog) (e := 5) (z := .int .u8 0) (size := 1) (bytes := 1) (by kernel_rfl)
  exact ⟨i, _, hi, hz, hs, hb, rfl⟩, by decide⟩
theorem numU_len : ∀ (f u : Nat), u < 128 ^ (f + 1) → (numU u).length ≤ f + 1
  | f, u, h => by
    by_cases q : u < 128
    · rw [numU_small q]; simp
    · cases f with
      | zero => omega
      | succ f =>
        rw [numU_big (by omega), List.length_cons]
        have := numU_len f (u / 128) (by rw [Nat.pow_succ] at h; omega)
        omega
theorem unz_neg {n : Int} (h : n < 0) : (unz n : Int) = -2 * n - 1 := by unfold unz; rw [if_pos h]; omega
theorem unz_pos {n : Int} (h : ¬ n < 0) : (unz n : Int) = 2 * n := by unfold unz; rw [if_neg h]; omega
/-- A string made of a row of bytes. -/
theorem conv_str {w : World} {B n c : Nat} {A : Option Addr} {l : List UInt8} (h : w.ownsRow B 5 1 (.slice A n c) n (bcells l)) (h0 : 0 < l.length) : (convert 47 9 (.slice A n c)).run Try.prog w = .ok (.string (bstr l)) w := by
  have hl : n = l.length := by have := h.1; rw [bcells_len] at this; omega
  subst hl
  obtain ⟨b, off, rfl, hb, hc⟩ := (Row.of_ownS h).at_ (show 0 < (bcells l).length by rw [bcells_len]; exact h0)
  exact run_convert_bytes_back w _ _ 5 _ c l Try.underlying47 Try.underlying5 Try.underlying9 (fun j hj => by
    rw [add_none]
    exact hc j _ (by simp [hj]))

theorem conv_row {w : World} {B c : Nat} {A : Option Addr} {l : List UInt8} (h : Row w B A (bcells l)) (h0 : 0 < l.length) : (convert 47 9 (.slice A l.length c)).run Try.prog w = .ok (.string (bstr l)) w := by
  obtain ⟨b, off, rfl, hb, hc⟩ := h.at_ (show 0 < (bcells l).length by rw [bcells_len]; exact h0)
  exact run_convert_bytes_back w _ _ 5 _ c l Try.underlying47 Try.underlying5 Try.underlying9 (fun j hj => by
    rw [add_none]
    exact hc j _ (by simp [hj]))

set_option maxRecDepth 100000 in
theorem or128 : ∀ x : Fin 256, bits BinOp.or IntKind.u8 (x.val : Int) 128 = 128 + (x.val : Int) % 128 := by decide
theorem or128' (u : Nat) : bits BinOp.or IntKind.u8 ((u : Int) % 256) 128 = ((UInt8.ofNat (128 + u % 128)).toNat : Int) := by
  have h := or128 ⟨u % 256, by omega⟩
  simp only at h
  rw [show ((u : Int) % 256) = ((u % 256 : Nat) : Int) by omega, h, b8_of _ (by omega)]
  omega

set_option maxHeartbeats 400000 in
set_option maxRecDepth 100000 in
theorem number_any (n : Int) (w : World) : Calls Try.prog 9 #[.int .i64 n] w fun e w' => e = .returned (.string (bstr (numB n))) ∧ Below w.heap.size w w' := by
  have h1 := clampN_le n
  have hm : min (max n (-2305843009213693952)) 2305843009213693952 = clampN n := by unfold clampN; omega
  obtain ⟨m, hM⟩ : ∃ m, m = clampN n := ⟨_, rfl⟩
  have HB := hid (show numB n = numU (unz m) by rw [hM]; rfl)
  rw [← hM] at h1 hm
  have hul := unz_lt h1.1 h1.2
  have HLN := hid (numU_len 8 (unz m) hul)
  go_enter Try.func9, Try.ntmps9
  clear hM
  go_upto_region 1 with fail
  go_cut [0] from 5 to 7 (fun s0 wx => s0 = .int .i64 m ∧ wx = w)
  case first =>
    go_wp2_with fail
    all_goals
      go_meet
      case rel => exact ⟨by congr 1 <;> omega, rfl⟩
  case rest =>
    obtain ⟨rfl, rfl⟩ := hcut
    have w1 : ∀ x : Int, IntKind.u64.wrap x = x % 18446744073709551616 := fun x => by simp [IntKind.wrap, IntKind.signed, IntKind.bits]
    go_upto_if 12 with fail
    go_cut [3] from 13 to 17 (fun s3 wx => s3 = .int .u64 (unz m : Int) ∧ wx = wc)
    case first =>
      by_cases h : m < 0
      · have t1 : (m < 0) = True := eq_true h
        have hu := unz_neg h
        clear h
        go_wp2_with fail
        go_meet
        case rel => exact ⟨by congr 1 <;> omega, rfl⟩
      · have t1 : (m < 0) = False := eq_false h
        have hu := unz_pos h
        clear h
        go_wp2_with fail
        go_meet
        case rel => exact ⟨by congr 1 <;> omega, rfl⟩
    case rest =>
      obtain ⟨rfl, rfl⟩ := hcut
      obtain ⟨w, rfl⟩ : ∃ wx : World, wx = wc := ⟨_, rfl⟩
      rw [← HB.out] at HLN
      go_wp2_with fail
      -- STOP-a
      go_loopw [3, 4] (fun s3 s4 wr => ∃ (u : Nat) (l : List UInt8), s3 = .int .u64 (u : Int) ∧ u < 9223372036854775808 ∧ Hid (l ++ numU u = numB n) ∧ Hid (wr.ownsRow w.heap.size 5 1 s4 l.length (bcells l)) ∧ Hid (Below w.heap.size w wr)) (fun s3 _ _ => (intOf s3).toNat)
      case atStart => exact ⟨unz m, [], rfl, hul, hid (by rw [HB.out]; rfl), hid (World.ownsRow_nil _ _ _ _), hid (Below.refl _ _)⟩
      case round =>
        obtain ⟨u, l, rfl, hu, HT, HOWN, HBL⟩ := hrel
        obtain ⟨A4, c4, rfl⟩ := own_formS HOWN.out
        have hln : l.length ≤ 9 := by
          have h1 := HLN.out
          rw [← HT.out, List.length_append] at h1
          omega
        by_cases hb : 128 ≤ u
        · have t1 : (128 ≤ (u : Int)) = True := eq_true (by omega)
          have HT2 := hid (show (l ++ [UInt8.ofNat (128 + u % 128)]) ++ numU (u / 128) = numB n by rw [← HT.out, numU_big hb, List.append_assoc]; rfl)
          have hbt := or128' u
          obtain ⟨bt, hBT⟩ : ∃ b, b = UInt8.ofNat (128 + u % 128) := ⟨_, rfl⟩
          rw [← hBT] at hbt HT2
          clear hBT
          go_wp2_with (at_builtin; refine wpList_append_row elem_byte rfl _ _ rfl w.heap.size _ _ _ rfl (HOWN.out.alloc _) (some ⟨wr.heap.size, 0, none⟩) 1 1 (wr.heap.size + 1) [.int .u8 (bt.toNat : Int)] rfl rfl (Row.new' _ _ _ rfl rfl (Nat.lt_succ_self _)) (bcells_one [bt]) ?_ ?_ ?_ ?_; rotate_right; intro v7 w7 hown7 hg7 hif7; rotate_left; (simp only [maxLen]; omega); (omega); (have := HBL.out.size; simp; omega))
          -- STOP-b
          go_roundw
          case rel =>
            refine ⟨u / 128, l ++ [bt], by first | rfl | (congr 1 <;> omega), by omega, HT2, hid ?_, hid (Below.grown (alloc_below HBL.out _) hg7 (by have := HBL.out.size; simp; omega) (fun g e => (HOWN.out.lt g e).1))⟩
            rw [bcells_app, List.length_append]
            exact hown7
          case measure => simp [intOf]; omega
        · have t1 : (128 ≤ (u : Int)) = False := eq_false (by omega)
          have HT2 := hid (show l ++ [UInt8.ofNat u] = numB n by rw [← HT.out, numU_small (by omega)])
          have hcl : bcells (l ++ [UInt8.ofNat u]) = bcells l ++ [.int .u8 (u : Int)] := by rw [bcells_app]; simp only [List.map_cons, List.map_nil, b8_of u (by omega)]
          have HCL := hid hcl
          clear hcl
          go_wp2_with (at_builtin; refine wpList_append_row elem_byte rfl _ _ rfl w.heap.size _ _ _ rfl (HOWN.out.alloc _) (some ⟨wr.heap.size, 0, none⟩) 1 1 (wr.heap.size + 1) [.int .u8 (u : Int)] rfl rfl (Row.new' _ _ _ rfl rfl (Nat.lt_succ_self _)) (fun x hx => by rw [List.mem_singleton.1 hx]; rfl) ?_ ?_ ?_ ?_; rotate_right; intro v7 w7 hown7 hg7 hif7; obtain ⟨A7, c7, rfl⟩ := own_formS hown7; rw [← HCL.out] at hown7; have hc7 := conv_str hown7 (by simp); rotate_left; (simp only [maxLen]; omega); (omega); (have := HBL.out.size; simp; omega))
          -- STOP-c
          go_ret
          exact ⟨by rw [HT2.out]; rfl, Below.grown (alloc_below HBL.out _) hg7 (by have := HBL.out.size; simp; omega) (fun g e => (HOWN.out.lt g e).1)⟩

set_option maxHeartbeats 400000 in
set_option maxRecDepth 100000 in
theorem Rnumber_any (n : Int) (w : World) : Calls Try.prog 10 #[.int .i64 n] w fun e w' => e = .returned (.string (bstr (numB n))) ∧ Below w.heap.size w w' := by
  have h1 := clampN_le n
  have hm : max (min n 2305843009213693952) (-2305843009213693952) = clampN n := rfl
  obtain ⟨m, hM⟩ : ∃ m, m = clampN n := ⟨_, rfl⟩
  have HB := hid (show numB n = numU (unz m) by rw [hM]; rfl)
  rw [← hM] at h1 hm
  have hul := unz_lt h1.1 h1.2
  have HLN := hid (numU_len 8 (unz m) hul)
  go_enter Try.func10, Try.ntmps10
  clear hM
  go_upto_region 1 with fail
  go_cut [0] from 5 to 7 (fun s0 wx => s0 = .int .i64 m ∧ wx = w)
  case first =>
    go_wp2_with fail
    all_goals
      go_meet
      case rel => exact ⟨by congr 1 <;> omega, rfl⟩
  case rest =>
    obtain ⟨rfl, rfl⟩ := hcut
    have w1 : IntKind.i64.wrap (2 * m) = 2 * m := IntWalk.i64_in _ (by omega)
    have w2 : IntKind.i64.wrap (-(2 * m)) = -(2 * m) := IntWalk.i64_in _ (by omega)
    have w3 : IntKind.i64.wrap (-2 * m) = -2 * m := IntWalk.i64_in _ (by omega)
    go_upto_if 11 with fail
    go_cut [3] from 12 to 14 (fun s3 wx => s3 = .int .i64 (unz m : Int) ∧ wx = wc)
    case first =>
      by_cases h : m < 0
      · have t1 : (m < 0) = True := eq_true h
        have hu := unz_neg h
        clear h
        go_wp2_with fail
        go_meet
        case rel => exact ⟨by congr 1 <;> first | omega | (simp only [IntKind.wrap_i64]; omega), rfl⟩
      · have t1 : (m < 0) = False := eq_false h
        have hu := unz_pos h
        clear h
        go_wp2_with fail
        go_meet
        case rel => exact ⟨by congr 1 <;> omega, rfl⟩
    case rest =>
      obtain ⟨rfl, rfl⟩ := hcut
      obtain ⟨w, rfl⟩ : ∃ wx : World, wx = wc := ⟨_, rfl⟩
      rw [← HB.out] at HLN
      go_wp2_with fail
      -- STOP-d
      go_loopw [3, 4] (fun s3 s4 wr => ∃ (u : Nat) (l : List UInt8), s3 = .int .i64 (u : Int) ∧ u < 9223372036854775808 ∧ Hid (l ++ numU u = numB n) ∧ s4 = .string (bstr l) ∧ Hid (Below w.heap.size w wr)) (fun s3 _ _ => (intOf s3).toNat)
      case atStart => exact ⟨unz m, [], rfl, hul, hid (by rw [HB.out]; rfl), rfl, hid (Below.refl _ _)⟩
      case round =>
        obtain ⟨u, l, rfl, hu, HT, rfl, HBL⟩ := hrel
        have hln : l.length ≤ 9 := by
          have h1 := HLN.out
          rw [← HT.out, List.length_append] at h1
          omega
        have hsz := bstr_size l
        by_cases hb : 128 ≤ u
        · have t1 : (127 < (u : Int)) = True := eq_true (by omega)
          have HT2 := hid (show (l ++ [UInt8.ofNat (128 + u % 128)]) ++ numU (u / 128) = numB n by rw [← HT.out, numU_big hb, List.append_assoc]; rfl)
          have hbt : 128 + (u : Int) % 128 = ((UInt8.ofNat (128 + u % 128)).toNat : Int) := by rw [b8_of _ (by omega)]; omega
          obtain ⟨bt, hBT⟩ : ∃ b, b = UInt8.ofNat (128 + u % 128) := ⟨_, rfl⟩
          rw [← hBT] at hbt HT2
          clear hBT
          have hcv : (convert 47 9 (.slice (some ⟨wr.heap.size, 0, none⟩) 1 1)).run Try.prog (wr.alloc (.cells #[.int .u8 (bt.toNat : Int)] 5)) = .ok (.string (bstr [bt])) (wr.alloc (.cells #[.int .u8 (bt.toNat : Int)] 5)) := conv_row (l := [bt]) (Row.new' wr _ _ rfl rfl (Nat.lt_succ_self _)) (by simp)
          have hap := bstr_app l [bt]
          have hs1 := bstr_size [bt]
          go_wp2_with fail
          -- STOP-e
          go_roundw
          case rel => exact ⟨u / 128, l ++ [bt], by first | rfl | (congr 1 <;> omega), by omega, HT2, rfl, hid (alloc_below HBL.out _)⟩
          case measure => simp [intOf]; omega
        · have t1 : (127 < (u : Int)) = False := eq_false (by omega)
          have HT2 := hid (show l ++ [UInt8.ofNat u] = numB n by rw [← HT.out, numU_small (by omega)])
          have hw8 : IntKind.u8.wrap (u : Int) = (u : Int) := by simp [IntKind.wrap, IntKind.signed, IntKind.bits]; omega
          have hcv : (convert 47 9 (.slice (some ⟨wr.heap.size, 0, none⟩) 1 1)).run Try.prog (wr.alloc (.cells #[.int .u8 (u : Int)] 5)) = .ok (.string (bstr [UInt8.ofNat u])) (wr.alloc (.cells #[.int .u8 (u : Int)] 5)) := conv_row (l := [UInt8.ofNat u]) (Row.new' wr _ _ rfl (by simp only [List.map_cons, List.map_nil, b8_of u (by omega)]) (Nat.lt_succ_self _)) (by simp)
          have hap := bstr_app l [UInt8.ofNat u]
          have hs1 := bstr_size [UInt8.ofNat u]
          go_wp2_with fail
          -- STOP-f
          go_ret
          exact ⟨by rw [HT2.out]; rfl, alloc_below HBL.out _⟩
end Go.Proofs.Ytnnabfjlmenmgaa
/- wire.Sum, and the document's. -/
namespace Go.Proofs.Ytnnabfjlmenmgaa
set_option linter.unusedVariables false
set_option linter.unusedSimpArgs false
open Go.ChangeShapes Go.WideShapes Go.ChangeAt Go.RowKit

theorem wrapU32 (n : Int) : IntKind.u32.wrap n = n % 4294967296 := by simp [IntKind.wrap, IntKind.bits, IntKind.signed]
theorem bits_and32 (a b : Nat) (ha : a < 4294967296) (hb : b < 4294967296) : bits .and .u32 (a : Int) (b : Int) = ((a &&& b : Nat) : Int) := by
  have hx : a &&& b < 2 ^ 32 := Nat.and_lt_two_pow _ (by omega)
  have h1 : (BitVec.ofInt 32 (a : Int)).toNat = a := by
    rw [BitVec.ofInt_natCast, BitVec.toNat_ofNat]; exact Nat.mod_eq_of_lt (by omega)
  have h2 : (BitVec.ofInt 32 (b : Int)).toNat = b := by
    rw [BitVec.ofInt_natCast, BitVec.toNat_ofNat]; exact Nat.mod_eq_of_lt (by omega)
  show IntKind.u32.wrap ((BitVec.ofInt 32 (a : Int) &&& BitVec.ofInt 32 (b : Int)).toNat : Int) = _
  rw [BitVec.toNat_and, h1, h2, wrapU32]
  omega
theorem bits_xor32 (a b : Nat) (ha : a < 4294967296) (hb : b < 4294967296) : bits .xor .u32 (a : Int) (b : Int) = ((a ^^^ b : Nat) : Int) := by
  have hx : a ^^^ b < 2 ^ 32 := Nat.xor_lt_two_pow (by omega) (by omega)
  have h1 : (BitVec.ofInt 32 (a : Int)).toNat = a := by
    rw [BitVec.ofInt_natCast, BitVec.toNat_ofNat]; exact Nat.mod_eq_of_lt (by omega)
  have h2 : (BitVec.ofInt 32 (b : Int)).toNat = b := by
    rw [BitVec.ofInt_natCast, BitVec.toNat_ofNat]; exact Nat.mod_eq_of_lt (by omega)
  show IntKind.u32.wrap ((BitVec.ofInt 32 (a : Int) ^^^ BitVec.ofInt 32 (b : Int)).toNat : Int) = _
  rw [BitVec.toNat_xor, h1, h2, wrapU32]
  omega
theorem bstr_get (L : List UInt8) (i : Nat) (h : i < L.length) : (bstr L)[i]'h = L[i] := by simp [ByteArray.getElem_eq_getElem_data]
theorem shift_bit (b k : Nat) : ((b : Int) / 2 ^ k).tmod 2 = ((b >>> k % 2 : Nat) : Int) := by
  rw [Nat.shiftRight_eq_div_pow]
  have e : ((b : Int) / 2 ^ k) = ((b / 2 ^ k : Nat) : Int) := by simp
  rw [e]
  generalize b / 2 ^ k = z
  rw [Int.tmod_eq_emod_of_nonneg (by omega)]
  omega
theorem not32 (N : Nat) (h : N < 4294967296) : bits .xor .u32 IntKind.u32.max (N : Int) = ((4294967295 - N : Nat) : Int) := by
  have e : (4294967295 : Nat) ^^^ N = 4294967295 - N := by
    have h1 := BitVec.toNat_not (x := BitVec.ofNat 32 N)
    rw [BitVec.not_def, BitVec.toNat_xor, BitVec.toNat_ofNat, BitVec.toNat_allOnes, Nat.mod_eq_of_lt h] at h1
    exact h1
  rw [← e]
  exact bits_xor32 4294967295 N (by omega) h
theorem take_foldl (l : List UInt8) (n : Nat) (i : Nat) (h : i < l.length) : (l.take (i + 1)).foldl crcByte n = crcByte ((l.take i).foldl crcByte n) l[i] := by
  rw [List.take_succ_eq_append_getElem h, List.foldl_append]; rfl

set_option maxHeartbeats 400000 in
set_option maxRecDepth 100000 in
theorem sumS_any (L : List UInt8) (w : World) (hl : L.length ≤ 9223372036854775807) : Calls Try.prog 11 #[.string (bstr L)] w fun e w' => e = .returned (.int .u32 (sumB L : Int)) ∧ w' = w := by
  have hsz := bstr_size L
  go_enter Try.func11, Try.ntmps11
  go_wp2_with fail
  -- STOP-a
  go_loopw [3, 8] (fun s3 s8 wr => ∃ (i : Nat) (N : Nat), i ≤ L.length ∧ s8 = .int .i64 (i : Int) ∧ s3 = .int .u32 (N : Int) ∧ N < 4294967296 ∧ Hid (N = (L.take i).foldl crcByte 4294967295) ∧ wr = w) (fun _ s8 _ => L.length - (intOf s8).toNat)
  case atStart => exact ⟨0, 4294967295, by omega, rfl, rfl, by omega, hid (by rw [List.take_zero]; rfl), rfl⟩
  case round =>
    obtain ⟨i, N, hi, rfl, rfl, hN, HN, rfl⟩ := hrel
    by_cases hlt : i < L.length
    · have t1 : ((i : Int) < (L.length : Int)) = True := eq_true (by omega)
      have HNX := hid (take_foldl L 4294967295 i hlt)
      have HLT := hid hlt
      have hgi := bstr_get L i hlt
      generalize L[i] = b at *
      have hb := b8_lt b
      have hmd : (b.toNat : Int) % 4294967296 = (b.toNat : Int) := by omega
      have hxo := bits_xor32 N b.toNat hN (by omega)
      have hX : N ^^^ b.toNat < 4294967296 := Nat.xor_lt_two_pow (n := 32) hN (by omega)
      rw [← HN.out] at HNX
      have HNX' := hid (show (L.take (i + 1)).foldl crcByte 4294967295 = crcBits 8 (N ^^^ b.toNat) from HNX.out)
      clear HNX
      obtain ⟨X, hXX⟩ : ∃ X, X = N ^^^ b.toNat := ⟨_, rfl⟩
      rw [← hXX] at hxo hX HNX'
      clear hXX
      go_wp2_with fail
      -- STOP-b
      obtain ⟨w, rfl⟩ : ∃ wx : World, wx = wr := ⟨_, rfl⟩
      go_loopw [3, 17] (fun s3 s17 wr => ∃ (k Y : Nat), k ≤ 8 ∧ s17 = .int .i64 (k : Int) ∧ s3 = .int .u32 (Y : Int) ∧ Y < 4294967296 ∧ Hid (Y = crcBits k X) ∧ wr = w) (fun _ s17 _ => 8 - (intOf s17).toNat)
      case atStart => exact ⟨0, X, by omega, rfl, rfl, hX, hid rfl, rfl⟩
      case round =>
        obtain ⟨k, Y, hk, rfl, rfl, hY, HY, rfl⟩ := hrel
        have han : bits .and .u32 (Y : Int) 1 = ((Y % 2 : Nat) : Int) := by rw [← Nat.and_one_is_mod]; exact bits_and32 Y 1 hY (by omega)
        have hx2 : bits .xor .u32 ((Y : Int) / 2) 3988292384 = ((Y / 2 ^^^ 3988292384 : Nat) : Int) := by
          rw [show ((Y : Int) / 2) = ((Y / 2 : Nat) : Int) by omega]; exact bits_xor32 (Y / 2) 3988292384 (by omega) (by omega)
        have hlY : Y / 2 ^^^ 3988292384 < 4294967296 := Nat.xor_lt_two_pow (n := 32) (by omega) (by decide)
        by_cases hk8 : k < 8
        · have t2 : ((k : Int) < 8) = True := eq_true (by omega)
          have HB := hid (show crcBits (k + 1) X = crcBit Y by rw [HY.out]; rfl)
          by_cases h1 : Y % 2 = 1
          · have HC := hid (show crcBit Y = (Y / 2) ^^^ 3988292384 by rw [crcBit, if_pos h1])
            rw [h1] at han
            replace han : bits .and .u32 (Y : Int) 1 = 1 := han
            obtain ⟨Z, hZ⟩ : ∃ Z, Z = Y / 2 ^^^ 3988292384 := ⟨_, rfl⟩
            rw [← hZ] at hx2 hlY HC
            clear hZ
            go_wp2_with fail
            -- STOP-c
            go_roundw
            case rel => exact ⟨k + 1, Z, by omega, by go_num, rfl, hlY, hid (by rw [HB.out, HC.out]), by first | rfl | trivial⟩
            case measure => simp [intOf]; omega
          · have HC := hid (show crcBit Y = Y / 2 by rw [crcBit, if_neg h1])
            rw [show Y % 2 = 0 by omega] at han
            replace han : bits .and .u32 (Y : Int) 1 = 0 := han
            go_wp2_with fail
            -- STOP-d
            go_roundw
            case rel => exact ⟨k + 1, Y / 2, by omega, by go_num, by first | rfl | (congr 1 <;> omega), by omega, hid (by rw [HB.out, HC.out]), by first | rfl | trivial⟩
            case measure => simp [intOf]; omega
        · have hk8' : k = 8 := by omega
          subst hk8'
          go_wp2_with fail
          -- STOP-e
          go_roundw
          case rel => exact ⟨i + 1, Y, by have := HLT.out; omega, by go_num, rfl, hY, hid (by rw [HY.out, HNX'.out]), by first | rfl | trivial⟩
          case measure => have := HLT.out; simp [intOf]; omega
    · have hik : i = L.length := by omega
      subst hik
      have HS := hid (show sumB L = 4294967295 - N by rw [sumB, sumN, HN.out, List.take_length])
      have hnt := not32 N hN
      rw [← HS.out] at hnt
      go_wp2_with fail
      -- STOP-f
      go_ret
      exact ⟨rfl, rfl⟩

set_option maxHeartbeats 400000 in
set_option maxRecDepth 100000 in
theorem Rsum_any (L : List UInt8) (w : World) (hl : L.length ≤ 9223372036854775807) : Calls Try.prog 12 #[.string (bstr L)] w fun e w' => e = .returned (.int .u32 (sumB L : Int)) ∧ w' = w := by
  have hsz := bstr_size L
  go_enter Try.func12, Try.ntmps12
  go_wp2_with fail
  -- STOP-g
  go_loopw [3, 4] (fun s3 s4 wr => ∃ (i : Nat) (N : Nat), i ≤ L.length ∧ s4 = .int .i64 (i : Int) ∧ s3 = .int .u32 (N : Int) ∧ N < 4294967296 ∧ Hid (N = (L.take i).foldl crcByte 4294967295) ∧ wr = w) (fun _ s4 _ => L.length - (intOf s4).toNat)
  case atStart => exact ⟨0, 4294967295, by omega, rfl, rfl, by omega, hid (by rw [List.take_zero]; rfl), rfl⟩
  case round =>
    obtain ⟨i, N, hi, rfl, rfl, hN, HN, rfl⟩ := hrel
    by_cases hlt : i < L.length
    · have t1 : ((i : Int) < (L.length : Int)) = True := eq_true (by omega)
      have HNX := hid (take_foldl L 4294967295 i hlt)
      have HLT := hid hlt
      have hgi := bstr_get L i hlt
      generalize L[i] = b at *
      have hb := b8_lt b
      have hmd : (b.toNat : Int) % 4294967296 = (b.toNat : Int) := by omega
      rw [← HN.out, crcByte_div] at HNX
      go_wp2_with fail
      -- STOP-h
      obtain ⟨w, rfl⟩ : ∃ wx : World, wx = wr := ⟨_, rfl⟩
      go_loopw [3, 5] (fun s3 s5 wr => ∃ (k Y : Nat), k ≤ 8 ∧ s5 = .int .i64 (k : Int) ∧ s3 = .int .u32 (Y : Int) ∧ Y < 4294967296 ∧ Hid (Y = crcDiv b.toNat k N) ∧ wr = w) (fun _ s5 _ => 8 - (intOf s5).toNat)
      case atStart => exact ⟨0, N, by omega, rfl, rfl, hN, hid rfl, rfl⟩
      case round =>
        obtain ⟨k, Y, hk, rfl, rfl, hY, HY, rfl⟩ := hrel
        have hx2 : bits .xor .u32 ((Y : Int) / 2) 3988292384 = ((Y / 2 ^^^ 3988292384 : Nat) : Int) := by
          rw [show ((Y : Int) / 2) = ((Y / 2 : Nat) : Int) by omega]; exact bits_xor32 (Y / 2) 3988292384 (by omega) (by omega)
        have hlY : Y / 2 ^^^ 3988292384 < 4294967296 := Nat.xor_lt_two_pow (n := 32) (by omega) (by decide)
        by_cases hk8 : k < 8
        · have t2 : ((k : Int) < 8) = True := eq_true (by omega)
          have hq := shift_bit b.toNat k
          have HB := hid (show crcDiv b.toNat (k + 1) N = if Y % 2 ≠ (b.toNat >>> k) % 2 then (Y / 2) ^^^ 3988292384 else Y / 2 by rw [crcDiv, ← HY.out])
          by_cases h1 : Y % 2 ≠ (b.toNat >>> k) % 2
          · have hcn : ((Y : Int) % 2 != ((b.toNat : Int) / 2 ^ k).tmod 2) = true := by rw [hq]; simp only [bne_iff_ne, ne_eq]; omega
            have HC := hid (show crcDiv b.toNat (k + 1) N = (Y / 2) ^^^ 3988292384 by rw [HB.out, if_pos h1])
            obtain ⟨Z, hZ⟩ : ∃ Z, Z = Y / 2 ^^^ 3988292384 := ⟨_, rfl⟩
            rw [← hZ] at hx2 hlY HC
            clear hZ hq h1
            go_wp2_with fail
            go_roundw
            case rel => exact ⟨k + 1, Z, by omega, by go_num, rfl, hlY, hid (by rw [HC.out]), by first | rfl | trivial⟩
            case measure => simp [intOf]; omega
          · have hcn : ((Y : Int) % 2 != ((b.toNat : Int) / 2 ^ k).tmod 2) = false := by rw [hq]; simp only [bne_eq_false_iff_eq]; omega
            have HC := hid (show crcDiv b.toNat (k + 1) N = Y / 2 by rw [HB.out, if_neg h1])
            clear hq h1
            go_wp2_with fail
            go_roundw
            case rel => exact ⟨k + 1, Y / 2, by omega, by go_num, by first | rfl | (congr 1 <;> omega), by omega, hid (by rw [HC.out]), by first | rfl | trivial⟩
            case measure => simp [intOf]; omega
        · have hk8' : k = 8 := by omega
          subst hk8'
          go_wp2_with fail
          go_roundw
          case rel => exact ⟨i + 1, Y, by have := HLT.out; omega, by go_num, rfl, hY, hid (by rw [HY.out, HNX.out]), by first | rfl | trivial⟩
          case measure => have := HLT.out; simp [intOf]; omega
    · have hik : i = L.length := by omega
      subst hik
      have HS := hid (show sumB L = 4294967295 - N by rw [sumB, sumN, HN.out, List.take_length])
      have hsb : ((sumB L : Nat) : Int) = 4294967295 - (N : Int) := by rw [HS.out]; omega
      go_wp2_with fail
      -- STOP-j
      go_ret
      exact ⟨by rw [hsb]; rfl, rfl⟩
end Go.Proofs.Ytnnabfjlmenmgaa
/- append of a string's bytes onto an owned row. -/
namespace Go.Proofs.Ytnnabfjlmenmgaa
set_option linter.unusedVariables false
set_option linter.unusedSimpArgs false
open Go.ChangeShapes Go.WideShapes Go.ChangeAt Go.RowKit

theorem first_str (l : List UInt8) : (Array.map (fun b : UInt8 => Value.int IntKind.u8 (b.toNat : Int)) (bstr l).data).extract 0 l.length = (bcells l).toArray := by
  have hs : l.length = (Array.map (fun b : UInt8 => Value.int IntKind.u8 (b.toNat : Int)) (bstr l).data).size := by simp
  rw [hs, Array.extract_size]
  simp
set_option maxRecDepth 100000 in
theorem run_append_str (w : World) (base ty : Nat) (v : Value) (n : Nat) (xs : List Value) (hown : w.ownsRow base 5 1 v n xs) (l : List UInt8) (h0 : 0 < l.length)
    (h63 : n + l.length ≤ maxLen) (hbytes : (n + l.length) * 1 ≤ 140737488355328) (hbase : base ≤ w.heap.size) :
    ∃ v' w', (Builtin.append_ #[47, 9] ty #[v, .string (bstr l)]).run Try.prog w = .ok v' w' ∧ w'.ownsRow base 5 1 v' (n + l.length) (xs ++ bcells l) ∧ w.grownBy w' v.ownBlock ∧ (v'.ownBlock = v.ownBlock ∨ v'.ownBlock = some w.heap.size) := by
  obtain ⟨i, z, hi, hz, hsize, hby, hzs⟩ := elem_byte.hi
  have ht := Try.underlying47
  have hu := Try.underlying9
  have hsmall : n + l.length ≤ 9223372036854775807 := by simp only [maxLen] at h63; omega
  have hsz := bstr_size l
  have hfs := first_str l
  have htk : List.take l.length (List.map (fun b : UInt8 => Value.int IntKind.u8 (b.toNat : Int)) l) = bcells l := List.take_of_length_le (by simp)
  have hlen : (xs ++ bcells l).length = (n + l.length) * 1 := by rw [List.length_append, hown.1, bcells_len]; omega
  have grown : ∀ (old : Nat), old < n + l.length → ∀ (row : Option Nat),
      (w.drew.alloc (.cells (xs.toArray ++ (bcells l).toArray ++ Builtin.zeroCells z.cells (grownCap w (n + l.length) old 5 - (n + l.length))) 5)).ownsRow base 5 1
        (.slice (some ⟨w.heap.size, 0, none⟩) (n + l.length) (grownCap w (n + l.length) old 5)) (n + l.length) (xs ++ bcells l) ∧
      w.grownBy (w.drew.alloc (.cells (xs.toArray ++ (bcells l).toArray ++ Builtin.zeroCells z.cells (grownCap w (n + l.length) old 5 - (n + l.length))) 5)) row := by
    intro old ho row
    have hge := grownCap_ge w (n + l.length) old 5
    have hcm := grownCap_le_maxLen w (n + l.length) old 5 h63
    refine ⟨⟨hlen, .inr ⟨w.heap.size, _, _, rfl, hbase, heap_alloc_new w.drew _, hge, hcm, ?_, ?_⟩⟩, ⟨rfl, rfl, rfl, by simp, fun k hk _ => heap_alloc_old w.drew _ hk⟩⟩
    · have := hown.1
      simp only [Array.size_append, List.size_toArray, size_zeroCells, hzs, hown.1, bcells_len]
      omega
    · simp only [Array.toList_append, List.append_assoc]
      rw [← List.append_assoc, ← hlen]
      exact List.take_left
  rcases hown.2 with ⟨rfl, rfl⟩ | ⟨g, cap, cur, rfl, hbg, hg, hnc, hcm, hcs, htake⟩
  · have hx : xs = [] := List.eq_nil_of_length_eq_zero (by simpa using hown.1)
    subst hx
    have hr := run_append_nil_string (P := Try.prog) w 47 9 ty 5 i z ht hu hi hz (bstr l) (by rw [hsz]; exact h0) (by rw [hsz]; omega) (by rw [hsz, hby]; omega)
    have hgr := grown 0 (by omega) (Value.ownBlock (.slice none 0 0))
    simp only [Nat.zero_add, List.nil_append, Array.empty_append] at hgr ⊢
    rw [hsz] at hr
    have hm : (bstr l).data.map (fun b => Value.int .u8 (b.toNat : Int)) = (bcells l).toArray := by simp
    rw [hm] at hr
    exact ⟨_, _, hr, hgr.1, hgr.2, .inr rfl⟩
  · by_cases hroom : n + l.length ≤ cap
    · have hfit : n * 1 + (bcells l).length ≤ cur.size := by rw [bcells_len, hcs]; omega
      have hst := run_storeCells_at Try.prog g (n * 1) 5 (bcells l) 0 cur w hg (by simpa using hfit) (bcells_one l)
      simp only [Nat.add_zero] at hst
      have hr : (Builtin.append_ #[47, 9] ty #[.slice (some ⟨g, 0, none⟩) n cap, .string (bstr l)]).run Try.prog w =
          .ok (.slice (some ⟨g, 0, none⟩) (n + l.length) cap) (w.setRow g (cur.toList.take (n * 1) ++ bcells l ++ cur.toList.drop (n * 1 + (bcells l).length)).toArray) := by
        simp [Builtin.append_, run_underlying ht, run_underlying hu, sizeOf, typeInfo, hi, Builtin.lenOf, Builtin.firstCells, hroom, hsize, hsz, hfs, Addr.add_lit]
        rw [htk]
        have hst' := hst
        simp at hst'
        rw [hst']
        rfl
      refine ⟨_, _, hr, ⟨hlen, .inr ⟨g, cap, _, rfl, hbg, setRow_heap w g cur _ 5 _ hg, hroom, hcm, ?_, ?_⟩⟩, ⟨rfl, rfl, rfl, by simp, fun k _ hk => setRow_other w g k _ (fun e => hk (by simp [Value.ownBlock, e]))⟩, .inl rfl⟩
      · simp only [List.size_toArray, List.length_append, List.length_take, List.length_drop, Array.length_toList]
        omega
      · rw [htake, ← hlen]
        exact List.take_left
    · have holds : ∀ j u, xs[j]? = some u → w.cell? ((⟨g, 0, none⟩ : Addr).add j) = some u := hown.cells (g := g) rfl
      have hfit := growslice_fits (need := n + l.length) (old := cap) (bytes := i.bytes) (by omega) (by rw [hby]; exact hbytes)
      have hn : ¬ (n + l.length ≤ cap) := by omega
      have h63' : ¬ (9223372036854775807 < ((n : Int) + (l.length : Int))) := by omega
      have h48' : ¬ (281474976710656 < Builtin.nextslicecap (n + l.length) cap * i.bytes) := by omega
      have hfo := run_firstCells_some (P := Try.prog) w.drew i.size n ⟨g, 0, none⟩ n cap xs (by rw [hsize]; exact hown.1) (by simpa using holds)
      have hf2 : (Builtin.firstCells i.size l.length (Value.string (bstr l))).run Try.prog w.drew = .ok (bcells l).toArray w.drew := by simp [Builtin.firstCells, htk]
      have hr : (Builtin.append_ #[47, 9] ty #[.slice (some ⟨g, 0, none⟩) n cap, .string (bstr l)]).run Try.prog w =
          .ok (.slice (some ⟨w.heap.size, 0, none⟩) (n + l.length) (grownCap w (n + l.length) cap 5))
            (w.drew.alloc (.cells (xs.toArray ++ (bcells l).toArray ++ Builtin.zeroCells z.cells (grownCap w (n + l.length) cap 5 - (n + l.length))) 5)) := by
        simp [Builtin.append_, run_underlying ht, run_underlying hu, sizeOf, typeInfo, zeroValue, hi, hz, Builtin.lenOf, hn, h63', h48', Question.forced, hfo, newRow, grownCap, hsz]
        rw [hf2]
        simp only [Result.andThen_ok]
        congr 2
        congr 1
        apply Array.ext'
        simp [List.append_assoc]
      have hgr := grown cap (by omega) (Value.ownBlock (.slice (some ⟨g, 0, none⟩) n cap))
      exact ⟨_, _, hr, hgr.1, hgr.2, .inr rfl⟩

theorem wp_append_str {w : World} {o : Oper} {a : Act} {K : Act → World → Prop} {Q : Exit → Act → World → Prop} (s x : Operand)
    (ho : o.op = .call { callee := .builtin .append, args := #[s, x], argTypes := #[47, 9] })
    (base : Nat) (v : Value) (n : Nat) (xs : List Value) (hs : a.eval s = v) (hown : w.ownsRow base 5 1 v n xs) (l : List UInt8) (hx : a.eval x = .string (bstr l)) (h0 : 0 < l.length)
    (h63 : n + l.length ≤ maxLen) (hbytes : (n + l.length) * 1 ≤ 140737488355328) (hbase : base ≤ w.heap.size)
    (h : ∀ v' w', w'.ownsRow base 5 1 v' (n + l.length) (xs ++ bcells l) → w.grownBy w' v.ownBlock → (v'.ownBlock = v.ownBlock ∨ v'.ownBlock = some w.heap.size) → K (a.put o.dst v') w') : o.wp Try.prog a w K Q := by
  obtain ⟨v', w', hr, h2, h3, h4⟩ := run_append_str w base o.type v n xs hown l h0 h63 hbytes hbase
  unfold Oper.wp execOp
  simp only [ho, resolve, invoke, builtin, Sem.run_bind, Sem.run_pure, Result.andThen_ok, List.map_toArray, List.map_cons, List.map_nil, hs, hx, hr]
  exact h v' w' h2 h3 h4
theorem wpList_append_str {w : World} {ops : Array Oper} {rest : List Oper} {o : Oper} {a : Act} {Q : Exit → Act → World → Prop} (hgd : o.guard = none) (s x : Operand)
    (ho : o.op = .call { callee := .builtin .append, args := #[s, x], argTypes := #[47, 9] })
    (base : Nat) (v : Value) (n : Nat) (xs : List Value) (hs : a.eval s = v) (hown : w.ownsRow base 5 1 v n xs) (l : List UInt8) (hx : a.eval x = .string (bstr l)) (h0 : 0 < l.length)
    (h63 : n + l.length ≤ maxLen) (hbytes : (n + l.length) * 1 ≤ 140737488355328) (hbase : base ≤ w.heap.size)
    (h : ∀ v' w', w'.ownsRow base 5 1 v' (n + l.length) (xs ++ bcells l) → w.grownBy w' v.ownBlock → (v'.ownBlock = v.ownBlock ∨ v'.ownBlock = some w.heap.size) → wpList Try.prog ops Q rest (a.put o.dst v') w') :
    wpList Try.prog ops Q (o :: rest) a w :=
  wpList_plain hgd fun K hK => wp_append_str s x ho base v n xs hs hown l hx h0 h63 hbytes hbase fun v' w' a1 a2 a3 => hK _ _ (h v' w' a1 a2 a3)
end Go.Proofs.Ytnnabfjlmenmgaa
/- Packets as bytes: what is coded, what is read. No program in sight. -/
namespace Go.Proofs.Ytnnabfjlmenmgaa
set_option linter.unusedVariables false

def dotNs (d : Int × Int) : List Int := [d.1, d.2]
def celNs (x : Cel) : List Int := [x.d.1, x.d.2, x.key, x.col, x.val]
/-- A table's numbers, in the order of its bytes. -/
def numsT (t : Tab) : List Int := [t.c.c0, t.c.c1, t.c.c2, t.c.c3] ++ ((t.c.cloud.length : Int) :: t.c.cloud.flatMap dotNs) ++ ((t.cells.length : Int) :: t.cells.flatMap celNs)
def encL (l : List Int) : List UInt8 := l.flatMap numB
def encT (t : Tab) : List UInt8 := encL (numsT t)
/-- A packet's bytes. -/
def codeP (x y : Tab) : List UInt8 := encT x ++ encT y ++ sum4 (sumB (encT x ++ encT y))
/-- What is wrong with a packet. -/
def codeE (x y : Tab) : Int := if tabI x ≠ 0 then tabI x else tabI y
theorem encL_app (a b : List Int) : encL (a ++ b) = encL a ++ encL b := List.flatMap_append
theorem encL_cons (a : Int) (b : List Int) : encL (a :: b) = numB a ++ encL b := List.flatMap_cons
theorem encL_nil : encL [] = [] := rfl

/-! reading: where one is, if nothing was wrong -/
def nx (L : List UInt8) (s : Option Nat) : Int × Option Nat :=
  match s with
  | none => (0, none)
  | some a => match readN (L.drop a) with
    | some p => (p.1, some (a + p.2))
    | none => (0, none)
def mn (L : List UInt8) (s : Option Nat) : Nat × Option Nat := if (nx L s).1 < 0 ∨ 400 < (nx L s).1 then (0, none) else ((nx L s).1.toNat, (nx L s).2)
def rdDots (L : List UInt8) (s : Option Nat) : Nat → List (Int × Int) × Option Nat
  | 0 => ([], s)
  | k + 1 => ((rdDots L s k).1 ++ [((nx L (rdDots L s k).2).1, (nx L (nx L (rdDots L s k).2).2).1)], (nx L (nx L (rdDots L s k).2).2).2)
def rdCel (L : List UInt8) (s : Option Nat) : Cel × Option Nat :=
  let a := nx L s
  let b := nx L a.2
  let c := nx L b.2
  let d := nx L c.2
  let e := nx L d.2
  (⟨(a.1, b.1), c.1, d.1, e.1⟩, e.2)
def rdCels (L : List UInt8) (s : Option Nat) : Nat → List Cel × Option Nat
  | 0 => ([], s)
  | k + 1 => ((rdCels L s k).1 ++ [(rdCel L (rdCels L s k).2).1], (rdCel L (rdCels L s k).2).2)
/-- Four numbers. -/
def rdClk (L : List UInt8) (s : Option Nat) : (Int × Int × Int × Int) × Option Nat :=
  let a := nx L s
  let b := nx L a.2
  let c := nx L b.2
  let d := nx L c.2
  ((a.1, b.1, c.1, d.1), d.2)
def rdTab (L : List UInt8) (s : Option Nat) : Tab × Option Nat :=
  let k := rdClk L s
  let m := mn L k.2
  let d := rdDots L m.2 m.1
  let n := mn L d.2
  let c := rdCels L n.2 n.1
  (⟨⟨k.1.1, k.1.2.1, k.1.2.2.1, k.1.2.2.2, d.1⟩, c.1⟩, c.2)
def rdPac (L : List UInt8) : (Tab × Tab) × Option Nat := (((rdTab L (some 0)).1, (rdTab L (rdTab L (some 0)).2).1), (rdTab L (rdTab L (some 0)).2).2)
def noTab : Tab := ⟨⟨0, 0, 0, 0, []⟩, []⟩
/-- What a packet's bytes tell: is it right, and how many bytes it has. -/
def decOk (L : List UInt8) : Option Nat :=
  match (rdPac L).2 with
  | none => none
  | some a => if a + 4 ≤ L.length ∧ (L.drop a).take 4 = sum4 (sumB (L.take a)) ∧ tabI (rdPac L).1.1 = 0 ∧ tabI (rdPac L).1.2 = 0 then some (a + 4) else none

/-! what is coded is read -/
abbrev SmallN (n : Int) : Prop := -2305843009213693952 ≤ n ∧ n ≤ 2305843009213693952
theorem nx_at {L : List UInt8} {a : Nat} {n : Int} {rest : List UInt8} (h : L.drop a = numB n ++ rest) (hn : SmallN n) : nx L (some a) = (n, some (a + (numB n).length)) ∧ L.drop (a + (numB n).length) = rest := by
  refine ⟨?_, ?_⟩
  · unfold nx
    simp only
    rw [h, readN_numB hn.1 hn.2]
  · rw [← List.drop_drop, h, List.drop_left]
theorem mn_at {L : List UInt8} {a : Nat} {n : Nat} {rest : List UInt8} (h : L.drop a = numB n ++ rest) (hn : n ≤ 400) : mn L (some a) = (n, some (a + (numB n).length)) ∧ L.drop (a + (numB n).length) = rest := by
  obtain ⟨h1, h2⟩ := nx_at h ⟨by omega, by omega⟩
  refine ⟨?_, h2⟩
  unfold mn
  rw [h1, if_neg (by simp only; omega)]
  simp
theorem rdDots_at {L : List UInt8} {a : Nat} : ∀ (l : List (Int × Int)) (rest : List UInt8), L.drop a = encL (l.reverse.flatMap dotNs) ++ rest → (∀ d ∈ l, SmallN d.1 ∧ SmallN d.2) →
    rdDots L (some a) l.length = (l.reverse, some (a + (encL (l.reverse.flatMap dotNs)).length)) ∧ L.drop (a + (encL (l.reverse.flatMap dotNs)).length) = rest
  | [], rest, h, _ => ⟨rfl, by simpa [encL] using h⟩
  | d :: l, rest, h, hs => by
    have hd := hs d (by simp)
    have e : encL ((d :: l).reverse.flatMap dotNs) = encL (l.reverse.flatMap dotNs) ++ (numB d.1 ++ numB d.2) := by
      rw [List.reverse_cons, List.flatMap_append, encL_app]
      simp [dotNs, encL]
    rw [e, List.append_assoc, List.append_assoc] at h
    obtain ⟨i1, i2⟩ := rdDots_at l _ h (fun x hx => hs x (by simp [hx]))
    obtain ⟨j1, j2⟩ := nx_at i2 hd.1
    obtain ⟨k1, k2⟩ := nx_at j2 hd.2
    have hz : a + (encL (l.reverse.flatMap dotNs)).length + (numB d.1).length + (numB d.2).length = a + (encL ((d :: l).reverse.flatMap dotNs)).length := by
      rw [e, List.length_append, List.length_append]; omega
    rw [hz] at k1 k2
    refine ⟨?_, k2⟩
    rw [List.length_cons, rdDots, i1]
    simp only [j1, k1, List.reverse_cons]
theorem rdCel_at {L : List UInt8} {a : Nat} {x : Cel} {rest : List UInt8} (h : L.drop a = encL (celNs x) ++ rest) (hs : ∀ n ∈ celNs x, SmallN n) : rdCel L (some a) = (x, some (a + (encL (celNs x)).length)) ∧ L.drop (a + (encL (celNs x)).length) = rest := by
  have e : encL (celNs x) = numB x.d.1 ++ (numB x.d.2 ++ (numB x.key ++ (numB x.col ++ numB x.val))) := by simp [encL, celNs]
  simp only [celNs, List.mem_cons, List.not_mem_nil, or_false, forall_eq_or_imp, forall_eq] at hs
  rw [e] at h ⊢
  simp only [List.append_assoc] at h
  obtain ⟨h1, h2⟩ := nx_at h hs.1
  obtain ⟨i1, i2⟩ := nx_at h2 hs.2.1
  obtain ⟨j1, j2⟩ := nx_at i2 hs.2.2.1
  obtain ⟨k1, k2⟩ := nx_at j2 hs.2.2.2.1
  obtain ⟨l1, l2⟩ := nx_at k2 hs.2.2.2.2
  have hz : a + (numB x.d.1).length + (numB x.d.2).length + (numB x.key).length + (numB x.col).length + (numB x.val).length = a + (numB x.d.1 ++ (numB x.d.2 ++ (numB x.key ++ (numB x.col ++ numB x.val)))).length := by
    simp only [List.length_append]; omega
  rw [hz] at l1 l2
  refine ⟨?_, l2⟩
  simp only [rdCel, h1, i1, j1, k1, l1]
theorem rdCels_at {L : List UInt8} {a : Nat} : ∀ (l : List Cel) (rest : List UInt8), L.drop a = encL (l.reverse.flatMap celNs) ++ rest → (∀ x ∈ l, ∀ n ∈ celNs x, SmallN n) →
    rdCels L (some a) l.length = (l.reverse, some (a + (encL (l.reverse.flatMap celNs)).length)) ∧ L.drop (a + (encL (l.reverse.flatMap celNs)).length) = rest
  | [], rest, h, _ => ⟨rfl, by simpa [encL] using h⟩
  | x :: l, rest, h, hs => by
    have e : encL ((x :: l).reverse.flatMap celNs) = encL (l.reverse.flatMap celNs) ++ encL (celNs x) := by
      rw [List.reverse_cons, List.flatMap_append, encL_app]
      simp
    rw [e, List.append_assoc] at h
    obtain ⟨i1, i2⟩ := rdCels_at l _ h (fun y hy => hs y (by simp [hy]))
    obtain ⟨j1, j2⟩ := rdCel_at i2 (hs x (by simp))
    have hz : a + (encL (l.reverse.flatMap celNs)).length + (encL (celNs x)).length = a + (encL ((x :: l).reverse.flatMap celNs)).length := by
      rw [e, List.length_append]; omega
    rw [hz] at j1 j2
    refine ⟨?_, j2⟩
    rw [List.length_cons, rdCels, i1]
    simp only [j1, List.reverse_cons]
/-- A table whose numbers have room. -/
def SmallT (t : Tab) : Prop := (∀ n ∈ numsT t, SmallN n) ∧ t.c.cloud.length ≤ 400 ∧ t.cells.length ≤ 400
theorem rdTab_at {L : List UInt8} {a : Nat} {t : Tab} {rest : List UInt8} (h : L.drop a = encT t ++ rest) (hs : SmallT t) : rdTab L (some a) = (t, some (a + (encT t).length)) ∧ L.drop (a + (encT t).length) = rest := by
  obtain ⟨hs, hd, hc⟩ := hs
  obtain ⟨⟨c0, c1, c2, c3, cl⟩, cs⟩ := t
  simp only at hd hc
  have e : encT ⟨⟨c0, c1, c2, c3, cl⟩, cs⟩ = numB c0 ++ (numB c1 ++ (numB c2 ++ (numB c3 ++ (numB (cl.length : Int) ++ (encL (cl.flatMap dotNs) ++ (numB (cs.length : Int) ++ encL (cs.flatMap celNs))))))) := by
    simp only [encT, numsT, encL_app, encL_cons, encL_nil, List.append_assoc, List.append_nil]
  have hm : ∀ n, n ∈ [c0, c1, c2, c3] ∨ n ∈ cl.flatMap dotNs ∨ n ∈ cs.flatMap celNs → SmallN n := fun n hn => hs n (by
    simp only [numsT, List.mem_append, List.mem_cons, List.not_mem_nil, or_false] at hn ⊢
    rcases hn with hn | hn | hn
    · exact .inl (.inl hn)
    · exact .inl (.inr (.inr hn))
    · exact .inr (.inr hn))
  rw [e] at h ⊢
  simp only [List.append_assoc] at h
  obtain ⟨a1, a2⟩ := nx_at h (hm c0 (.inl (by simp)))
  obtain ⟨b1, b2⟩ := nx_at a2 (hm c1 (.inl (by simp)))
  obtain ⟨d1, d2⟩ := nx_at b2 (hm c2 (.inl (by simp)))
  obtain ⟨e1, e2⟩ := nx_at d2 (hm c3 (.inl (by simp)))
  obtain ⟨f1, f2⟩ := mn_at e2 hd
  obtain ⟨g1, g2⟩ := rdDots_at cl.reverse _ (by rw [List.reverse_reverse]; exact f2) (fun x hx => ⟨hm x.1 (.inr (.inl (List.mem_flatMap.2 ⟨x, by simpa using hx, by simp [dotNs]⟩))), hm x.2 (.inr (.inl (List.mem_flatMap.2 ⟨x, by simpa using hx, by simp [dotNs]⟩)))⟩)
  rw [List.reverse_reverse] at g1 g2
  obtain ⟨i1, i2⟩ := mn_at g2 hc
  obtain ⟨j1, j2⟩ := rdCels_at cs.reverse _ (by rw [List.reverse_reverse]; exact i2) (fun x hx n hn => hm n (.inr (.inr (List.mem_flatMap.2 ⟨x, by simpa using hx, hn⟩))))
  rw [List.reverse_reverse] at j1 j2
  rw [List.length_reverse] at g1 j1
  have hz : a + (numB c0).length + (numB c1).length + (numB c2).length + (numB c3).length + (numB (cl.length : Int)).length + (encL (cl.flatMap dotNs)).length + (numB (cs.length : Int)).length + (encL (cs.flatMap celNs)).length =
      a + (numB c0 ++ (numB c1 ++ (numB c2 ++ (numB c3 ++ (numB (cl.length : Int) ++ (encL (cl.flatMap dotNs) ++ (numB (cs.length : Int) ++ encL (cs.flatMap celNs)))))))).length := by
    simp only [List.length_append]; omega
  rw [hz] at j1 j2
  refine ⟨?_, j2⟩
  simp only [rdTab, rdClk, a1, b1, d1, e1, f1, g1, i1, j1]
theorem rdPac_at {x y : Tab} (hx : SmallT x) (hy : SmallT y) (rest : List UInt8) : rdPac (encT x ++ encT y ++ rest) = ((x, y), some ((encT x ++ encT y).length)) := by
  obtain ⟨a1, a2⟩ := rdTab_at (L := encT x ++ encT y ++ rest) (a := 0) (rest := encT y ++ rest) (by simp) hx
  obtain ⟨b1, b2⟩ := rdTab_at a2 hy
  simp only [rdPac, a1, b1, List.length_append]
  rw [Nat.zero_add]

/-! what was read stays read -/
theorem nx_some {L : List UInt8} {s : Option Nat} {b : Nat} (h : (nx L s).2 = some b) : ∃ a n k, s = some a ∧ readN (L.drop a) = some (n, k) ∧ b = a + k ∧ a + k ≤ L.length ∧ nx L s = (n, some b) := by
  cases s with
  | none => simp [nx] at h
  | some a =>
    cases e : readN (L.drop a) with
    | none => simp [nx, e] at h
    | some p =>
      obtain ⟨n, k⟩ := p
      have hk := readN_le e
      rw [List.length_drop] at hk
      simp only [nx, e, Option.some.injEq] at h
      exact ⟨a, n, k, rfl, e, h.symm, by omega, by simp only [nx, e, h]⟩
theorem nx_more {L : List UInt8} {s : Option Nat} {b : Nat} (h : (nx L s).2 = some b) (more : List UInt8) : nx (L ++ more) s = nx L s := by
  obtain ⟨a, n, k, rfl, e, rfl, hl, e2⟩ := nx_some h
  have hk := readN_le e
  rw [e2]
  simp only [nx]
  rw [List.drop_append_of_le_length (by omega), readN_more e more]
theorem mn_some {L : List UInt8} {s : Option Nat} {b : Nat} (h : (mn L s).2 = some b) : (nx L s).2 = some b ∧ ¬((nx L s).1 < 0 ∨ 400 < (nx L s).1) ∧ mn L s = ((nx L s).1.toNat, some b) := by
  unfold mn at h ⊢
  by_cases q : (nx L s).1 < 0 ∨ 400 < (nx L s).1
  · rw [if_pos q] at h; cases h
  · rw [if_neg q] at h ⊢
    exact ⟨h, q, by rw [h]⟩
theorem mn_more {L : List UInt8} {s : Option Nat} {b : Nat} (h : (mn L s).2 = some b) (more : List UInt8) : mn (L ++ more) s = mn L s := by
  obtain ⟨h1, -, -⟩ := mn_some h
  unfold mn
  rw [nx_more h1 more]
theorem rdDots_more {L : List UInt8} {s : Option Nat} (more : List UInt8) : ∀ (k b : Nat), (rdDots L s k).2 = some b → rdDots (L ++ more) s k = rdDots L s k
  | 0, b, h => rfl
  | k + 1, b, h => by
    simp only [rdDots] at h ⊢
    obtain ⟨a1, -, -, e1, -⟩ := nx_some h
    obtain ⟨a2, -, -, e2, -⟩ := nx_some e1
    rw [rdDots_more more k _ e2, nx_more e1 more, nx_more h more]
theorem rdCel_more {L : List UInt8} {s : Option Nat} (more : List UInt8) {b : Nat} (h : (rdCel L s).2 = some b) : rdCel (L ++ more) s = rdCel L s ∧ ∃ a, s = some a := by
  simp only [rdCel] at h ⊢
  obtain ⟨a1, -, -, e1, -⟩ := nx_some h
  obtain ⟨a2, -, -, e2, -⟩ := nx_some e1
  obtain ⟨a3, -, -, e3, -⟩ := nx_some e2
  obtain ⟨a4, -, -, e4, -⟩ := nx_some e3
  obtain ⟨a5, -, -, e5, -⟩ := nx_some e4
  refine ⟨?_, a5, e5⟩
  rw [nx_more e4 more, nx_more e3 more, nx_more e2 more, nx_more e1 more, nx_more h more]
theorem rdCels_more {L : List UInt8} {s : Option Nat} (more : List UInt8) : ∀ (k b : Nat), (rdCels L s k).2 = some b → rdCels (L ++ more) s k = rdCels L s k
  | 0, b, h => rfl
  | k + 1, b, h => by
    simp only [rdCels] at h ⊢
    obtain ⟨q, a, e⟩ := rdCel_more more h
    rw [rdCels_more more k _ e, q]
theorem rdDots_some {L : List UInt8} {s : Option Nat} : ∀ (k b : Nat), (rdDots L s k).2 = some b → ∃ a, s = some a
  | 0, b, h => ⟨b, h⟩
  | k + 1, b, h => by
    simp only [rdDots] at h
    obtain ⟨a1, -, -, e1, -⟩ := nx_some h
    obtain ⟨a2, -, -, e2, -⟩ := nx_some e1
    exact rdDots_some k _ e2
theorem rdCels_some {L : List UInt8} {s : Option Nat} : ∀ (k b : Nat), (rdCels L s k).2 = some b → ∃ a, s = some a
  | 0, b, h => ⟨b, h⟩
  | k + 1, b, h => by
    simp only [rdCels] at h
    obtain ⟨-, a, e⟩ := rdCel_more [] h
    exact rdCels_some k _ e
theorem rdClk_more {L : List UInt8} {s : Option Nat} (more : List UInt8) {b : Nat} (h : (rdClk L s).2 = some b) : rdClk (L ++ more) s = rdClk L s ∧ ∃ a, s = some a := by
  simp only [rdClk] at h ⊢
  obtain ⟨a1, -, -, e1, -⟩ := nx_some h
  obtain ⟨a2, -, -, e2, -⟩ := nx_some e1
  obtain ⟨a3, -, -, e3, -⟩ := nx_some e2
  obtain ⟨a4, -, -, e4, -⟩ := nx_some e3
  refine ⟨?_, a4, e4⟩
  rw [nx_more e3 more, nx_more e2 more, nx_more e1 more, nx_more h more]
theorem rdTab_more {L : List UInt8} {s : Option Nat} (more : List UInt8) {b : Nat} (h : (rdTab L s).2 = some b) : rdTab (L ++ more) s = rdTab L s ∧ ∃ a, s = some a := by
  simp only [rdTab] at h ⊢
  obtain ⟨n1, e1⟩ := rdCels_some _ _ h
  obtain ⟨e2, -, -⟩ := mn_some e1
  obtain ⟨a3, -, -, e3, -⟩ := nx_some e2
  obtain ⟨m1, e4⟩ := rdDots_some _ _ e3
  obtain ⟨e5, -, -⟩ := mn_some e4
  obtain ⟨a6, -, -, e6, -⟩ := nx_some e5
  obtain ⟨q, a, e7⟩ := rdClk_more more e6
  refine ⟨?_, a, e7⟩
  rw [q, mn_more e4 more, rdDots_more more _ _ e3, mn_more e1 more, rdCels_more more _ _ h]
theorem rdPac_more {L : List UInt8} (more : List UInt8) {b : Nat} (h : (rdPac L).2 = some b) : rdPac (L ++ more) = rdPac L := by
  simp only [rdPac] at h ⊢
  obtain ⟨q, a, e⟩ := rdTab_more more h
  obtain ⟨q2, -⟩ := rdTab_more more e
  rw [q2, q]

/-! what is read was coded so -/
theorem nx_canon {L : List UInt8} {a b : Nat} {n : Int} (h : nx L (some a) = (n, some b)) : L.drop a = numU (unz n) ++ L.drop b ∧ b = a + (numU (unz n)).length ∧ b ≤ L.length := by
  obtain ⟨a', n', k, e1, e2, e3, e4, e5⟩ := nx_some (L := L) (s := some a) (b := b) (by rw [h])
  injection e1 with e1
  subst e1
  rw [h] at e5
  injection e5 with e5
  subst e5
  obtain ⟨⟨rest, q1⟩, q2⟩ := readN_canon e2
  refine ⟨?_, by rw [e3, q2], by omega⟩
  rw [e3, q2, ← List.drop_drop, q1, List.drop_left]
/-- Bytes of numbers, whatever they are. -/
def rawL (l : List Int) : List UInt8 := l.flatMap (fun n => numU (unz n))
theorem rawL_enc {l : List Int} (h : ∀ n ∈ l, SmallN n) : rawL l = encL l := by
  unfold rawL encL
  induction l with
  | nil => rfl
  | cons n l ih =>
    rw [List.flatMap_cons, List.flatMap_cons, ih (fun m hm => h m (by simp [hm]))]
    rw [numB, clampN_in (h n (by simp)).1 (h n (by simp)).2]
theorem rawL_app (a b : List Int) : rawL (a ++ b) = rawL a ++ rawL b := List.flatMap_append
def Span (L : List UInt8) (a b : Nat) (l : List Int) : Prop := L.drop a = rawL l ++ L.drop b ∧ b = a + (rawL l).length
theorem Span.nil (L : List UInt8) (a : Nat) : Span L a a [] := ⟨rfl, rfl⟩
theorem Span.trans {L : List UInt8} {a b c : Nat} {l m : List Int} (h : Span L a b l) (h' : Span L b c m) : Span L a c (l ++ m) := by
  refine ⟨?_, ?_⟩
  · rw [h.1, h'.1, rawL_app, List.append_assoc]
  · rw [h'.2, h.2, rawL_app, List.length_append]; omega
theorem nx_span {L : List UInt8} {a b : Nat} (h : (nx L (some a)).2 = some b) : Span L a b [(nx L (some a)).1] := by
  obtain ⟨q1, q2, -⟩ := nx_canon (L := L) (a := a) (b := b) (n := (nx L (some a)).1) (by rw [← h])
  exact ⟨by simpa [rawL] using q1, by simpa [rawL] using q2⟩
theorem mn_span {L : List UInt8} {a b : Nat} (h : (mn L (some a)).2 = some b) : Span L a b [((mn L (some a)).1 : Int)] := by
  obtain ⟨h1, h2, h3⟩ := mn_some h
  rw [h3]
  have := nx_span h1
  rwa [show (((nx L (some a)).1.toNat : Nat) : Int) = (nx L (some a)).1 by omega]
theorem rdDots_span {L : List UInt8} {a : Nat} : ∀ (k b : Nat), (rdDots L (some a) k).2 = some b → Span L a b ((rdDots L (some a) k).1.flatMap dotNs)
  | 0, b, h => by simp only [rdDots, Option.some.injEq] at h; subst h; exact Span.nil _ _
  | k + 1, b, h => by
    simp only [rdDots] at h ⊢
    obtain ⟨a1, -, -, e1, -⟩ := nx_some h
    obtain ⟨a2, -, -, e2, -⟩ := nx_some e1
    have s1 := rdDots_span k _ e2
    rw [e2] at e1 h ⊢
    have s2 := nx_span e1
    rw [e1] at h ⊢
    have s3 := nx_span h
    have := (s1.trans s2).trans s3
    rw [List.append_assoc] at this
    rw [List.flatMap_append]
    exact this
theorem rdCel_span {L : List UInt8} {a b : Nat} (h : (rdCel L (some a)).2 = some b) : Span L a b (celNs (rdCel L (some a)).1) := by
  simp only [rdCel, celNs] at h ⊢
  obtain ⟨a1, -, -, e1, -⟩ := nx_some h
  obtain ⟨a2, -, -, e2, -⟩ := nx_some e1
  obtain ⟨a3, -, -, e3, -⟩ := nx_some e2
  obtain ⟨a4, -, -, e4, -⟩ := nx_some e3
  have s4 := nx_span e4
  rw [e4] at e3 e2 e1 h ⊢
  have s3 := nx_span e3
  rw [e3] at e2 e1 h ⊢
  have s2 := nx_span e2
  rw [e2] at e1 h ⊢
  have s1 := nx_span e1
  rw [e1] at h ⊢
  exact (((s4.trans s3).trans s2).trans s1).trans (nx_span h)
theorem rdCels_span {L : List UInt8} {a : Nat} : ∀ (k b : Nat), (rdCels L (some a) k).2 = some b → Span L a b ((rdCels L (some a) k).1.flatMap celNs)
  | 0, b, h => by simp only [rdCels, Option.some.injEq] at h; subst h; exact Span.nil _ _
  | k + 1, b, h => by
    simp only [rdCels] at h ⊢
    obtain ⟨-, a1, e1⟩ := rdCel_more [] h
    have s1 := rdCels_span k _ e1
    rw [e1] at h ⊢
    have := s1.trans (rdCel_span h)
    rw [List.flatMap_append]
    simpa using this
theorem rdDots_len (L : List UInt8) (s : Option Nat) : ∀ k, (rdDots L s k).1.length = k
  | 0 => rfl
  | k + 1 => by simp [rdDots, rdDots_len L s k]
theorem rdCels_len (L : List UInt8) (s : Option Nat) : ∀ k, (rdCels L s k).1.length = k
  | 0 => rfl
  | k + 1 => by simp [rdCels, rdCels_len L s k]
theorem rdTab_span {L : List UInt8} {a b : Nat} (h : (rdTab L (some a)).2 = some b) : Span L a b (numsT (rdTab L (some a)).1) := by
  simp only [rdTab] at h ⊢
  simp only [numsT, rdDots_len, rdCels_len]
  obtain ⟨n1, e1⟩ := rdCels_some _ _ h
  obtain ⟨e2, -, -⟩ := mn_some e1
  obtain ⟨a3, -, -, e3, -⟩ := nx_some e2
  obtain ⟨m1, e4⟩ := rdDots_some _ _ e3
  obtain ⟨e5, -, -⟩ := mn_some e4
  obtain ⟨a6, -, -, e6, -⟩ := nx_some e5
  have sk : Span L a a6 [(rdClk L (some a)).1.1, (rdClk L (some a)).1.2.1, (rdClk L (some a)).1.2.2.1, (rdClk L (some a)).1.2.2.2] := by
    simp only [rdClk] at e6 ⊢
    obtain ⟨c1, -, -, f1, -⟩ := nx_some e6
    obtain ⟨c2, -, -, f2, -⟩ := nx_some f1
    obtain ⟨c3, -, -, f3, -⟩ := nx_some f2
    have s3 := nx_span f3
    rw [f3] at f2 f1 e6 ⊢
    have s2 := nx_span f2
    rw [f2] at f1 e6 ⊢
    have s1 := nx_span f1
    rw [f1] at e6 ⊢
    exact ((s3.trans s2).trans s1).trans (nx_span e6)
  rw [e6] at e5 e4 e3 e2 e1 h ⊢
  have s1 := mn_span e4
  rw [e4] at e3 e2 e1 h ⊢
  have s2 := rdDots_span _ _ e3
  rw [e3] at e2 e1 h ⊢
  have s3 := mn_span e1
  rw [e1] at h ⊢
  have s4 := rdCels_span _ _ h
  have := (((sk.trans s1).trans s2).trans s3).trans s4
  simpa [List.append_assoc] using this
theorem rdPac_span {L : List UInt8} {b : Nat} (h : (rdPac L).2 = some b) : L = rawL (numsT (rdPac L).1.1) ++ rawL (numsT (rdPac L).1.2) ++ L.drop b ∧ b = (rawL (numsT (rdPac L).1.1)).length + (rawL (numsT (rdPac L).1.2)).length := by
  simp only [rdPac] at h ⊢
  obtain ⟨-, a, e⟩ := rdTab_more [] h
  have s1 := rdTab_span e
  rw [e] at h ⊢
  have s2 := rdTab_span h
  have := s1.trans s2
  refine ⟨?_, ?_⟩
  · have q := this.1
    rw [List.drop_zero, rawL_app] at q
    exact q
  · have q := this.2
    rw [rawL_app, List.length_append] at q
    omega

/-! the law of packets -/
theorem sum4_len (n : Nat) : (sum4 n).length = 4 := rfl
theorem codeP_len (x y : Tab) : (codeP x y).length = (encT x ++ encT y).length + 4 := by rw [codeP, List.length_append, sum4_len]
theorem dec_code {x y : Tab} (hx : SmallT x) (hy : SmallT y) (tx : tabI x = 0) (ty : tabI y = 0) (more : List UInt8) : decOk (codeP x y ++ more) = some (codeP x y).length ∧ (rdPac (codeP x y ++ more)).1 = (x, y) := by
  have h := rdPac_at hx hy (sum4 (sumB (encT x ++ encT y)) ++ more)
  rw [← List.append_assoc] at h
  refine ⟨?_, by rw [codeP, h]⟩
  unfold decOk
  rw [codeP, h]
  simp only
  rw [if_pos]
  · simp [sum4_len]; omega
  · refine ⟨by simp [sum4_len]; omega, ?_, tx, ty⟩
    rw [List.append_assoc _ _ more, List.drop_left, List.take_left' (sum4_len _), List.take_left]
theorem dec_short {x y : Tab} (hx : SmallT x) (hy : SmallT y) {k : Nat} (hk : k < (codeP x y).length) : decOk ((codeP x y).take k) = none := by
  cases e : decOk ((codeP x y).take k) with
  | none => rfl
  | some n =>
    exfalso
    unfold decOk at e
    cases f : (rdPac ((codeP x y).take k)).2 with
    | none => rw [f] at e; cases e
    | some a =>
      rw [f] at e
      simp only at e
      split at e
      · rename_i q
        have hm := rdPac_more ((codeP x y).drop k) f
        rw [List.take_append_drop] at hm
        have h := rdPac_at hx hy (sum4 (sumB (encT x ++ encT y)))
        rw [show encT x ++ encT y ++ sum4 (sumB (encT x ++ encT y)) = codeP x y from rfl] at h
        rw [← hm, h] at f
        simp only [Option.some.injEq] at f
        have q1 := q.1
        rw [List.length_take] at q1
        rw [codeP_len] at hk
        omega
      · cases e
theorem dec_only {x y : Tab} (hx : SmallT x) (hy : SmallT y) {B : List UInt8} {n : Nat} (h : decOk B = some n) (he : (rdPac B).1 = (x, y)) : B.take n = codeP x y ∧ n = (codeP x y).length := by
  unfold decOk at h
  cases f : (rdPac B).2 with
  | none => rw [f] at h; cases h
  | some a =>
    rw [f] at h
    simp only at h
    split at h
    · rename_i q
      injection h with h
      subst h
      obtain ⟨s1, s2⟩ := rdPac_span f
      rw [he] at s1 s2
      simp only at s1 s2
      rw [rawL_enc hx.1, rawL_enc hy.1] at s1 s2
      have hl : a = (encT x ++ encT y).length := by rw [List.length_append]; exact s2
      have ht : B.take a = encT x ++ encT y := by
        conv => lhs; rw [s1]
        rw [hl]
        exact List.take_left' rfl
      refine ⟨?_, by rw [codeP_len, hl]⟩
      rw [List.take_add, ht, q.2.1, ht]
      rfl
    · cases h
end Go.Proofs.Ytnnabfjlmenmgaa
