/- Wk -/
import Derived.Test.YtnnabfjlmenmgaaCk11
import Derived.Test.YtnnabfjlmenmgaaCk12
import Derived.Test.YtnnabfjlmenmgaaCk08
/- viewkeep.WireBack. -/
namespace Go.Proofs.Ytnnabfjlmenmgaa
set_option linter.unusedVariables false
set_option linter.unusedSimpArgs false
open Go.ChangeShapes Go.WideShapes Go.ChangeAt Go.RowKit

theorem wrapU8 (n : Int) : IntKind.u8.wrap n = n % 256 := by simp [IntKind.wrap, IntKind.bits, IntKind.signed]
theorem bits_xor8 (a b : Nat) (ha : a < 256) (hb : b < 256) : bits .xor .u8 (a : Int) (b : Int) = ((a ^^^ b : Nat) : Int) ∧ a ^^^ b < 256 := by
  have hx : a ^^^ b < 2 ^ 8 := Nat.xor_lt_two_pow (by omega) (by omega)
  have h1 : (BitVec.ofInt 8 (a : Int)).toNat = a := by
    rw [BitVec.ofInt_natCast, BitVec.toNat_ofNat]; exact Nat.mod_eq_of_lt (by omega)
  have h2 : (BitVec.ofInt 8 (b : Int)).toNat = b := by
    rw [BitVec.ofInt_natCast, BitVec.toNat_ofNat]; exact Nat.mod_eq_of_lt (by omega)
  refine ⟨?_, by omega⟩
  show IntKind.u8.wrap ((BitVec.ofInt 8 (a : Int) ^^^ BitVec.ofInt 8 (b : Int)).toNat : Int) = _
  rw [BitVec.toNat_xor, h1, h2, wrapU8]
  omega
theorem xor_ne {a c : Nat} (h : c ≠ 0) : a ^^^ c ≠ a := fun e => by
  have h1 : a ^^^ (a ^^^ c) = a ^^^ a := by rw [e]
  rw [← Nat.xor_assoc, Nat.xor_self, Nat.zero_xor] at h1
  exact h h1
/-- A byte, one of its bits turned. -/
theorem turn_bit (b : UInt8) (k : Nat) (hk : k < 8) : ∃ b' : UInt8, b' ≠ b ∧ bits .xor .u8 (b.toNat : Int) ((2 ^ k : Nat) : Int) = (b'.toNat : Int) := by
  have h2 : (2 : Nat) ^ k ≤ 2 ^ 7 := Nat.pow_le_pow_right (by omega) (by omega)
  have h0 : 0 < (2 : Nat) ^ k := Nat.pos_of_ne_zero (by simp)
  obtain ⟨e1, e2⟩ := bits_xor8 b.toNat (2 ^ k) (b8_lt b) (by omega)
  refine ⟨UInt8.ofNat (b.toNat ^^^ 2 ^ k), fun e => ?_, by rw [e1, b8_of _ e2]⟩
  have := congrArg UInt8.toNat e
  rw [b8_of _ e2] at this
  exact xor_ne (by omega) this
theorem encode_none (w : World) : Calls Try.prog 8 #[.agg z12] w fun e w' => e = .returned (.tuple #[.string (bstr (codeP noTab noTab)), .int .i64 0]) ∧ Below w.heap.size w w' := by
  have h := encode_any nTR nTR w (nTR_ok w) (nTR_ok w)
  have e1 : codeE nTR.t nTR.t = 0 := by unfold codeE; rw [if_neg (by simp [nTR, noTab_ok])]; exact noTab_ok
  have e2 : codeS nTR.t nTR.t = codeP noTab noTab := by unfold codeS; rw [if_pos e1]; rfl
  rw [e1, e2] at h
  exact h

/-- The block that []byte(s) makes. -/
theorem row_new (w : World) (S : List UInt8) (cap : Nat) (w' : World) (h : w' = (w.alloc (.cells (bytesRow (bstr S) cap) 5 ((bytesRow (bstr S) cap).size, (bytesRow (bstr S) cap).size + 1))).drew) :
    (∀ j (hj : j < S.length), w'.cell? ⟨w.heap.size, j, none⟩ = some (.int .u8 (S[j].toNat : Int))) ∧ (∀ j, j < S.length → w'.frozen? ⟨w.heap.size, j, none⟩ = false) ∧ w'.heap.size = w.heap.size + 1 ∧ Below w.heap.size w w' := by
  subst h
  have hz : (bstr S).data.size = S.length := bstr_size S
  refine ⟨fun j hj => ?_, fun j hj => ?_, ?_, ?_⟩
  · show (w.alloc _).cell? _ = _
    rw [World.cell?_alloc_mark, bytesRow_at (bstr S) _ j (by rw [hz]; exact hj)]
    simp
  · show (w.alloc _).frozen? _ = _
    rw [World.frozen?_alloc_mark]
    have : ¬ (bytesRow (bstr S) cap).size ≤ j := by
      have : (bstr S).data.size ≤ (bytesRow (bstr S) cap).size := by simp [bytesRow]
      omega
    simp [this]
  · show (w.heap.push _).size = _
    exact Array.size_push ..
  · exact (alloc_below (Below.refl _ _) _).drew
theorem row_turned {w : World} {b : Nat} {S : List UInt8} (hc : ∀ j (hj : j < S.length), w.cell? ⟨b, j, none⟩ = some (.int .u8 (S[j].toNat : Int))) (hb : b < w.heap.size) (i : Nat) (v : UInt8) (B : Nat) (hB : b < B) :
    Row (w.setCell ⟨b, i, none⟩ (.int .u8 (v.toNat : Int))) B (some ⟨b, 0, none⟩) (bcells (S.set i v)) := by
  refine .inr ⟨b, 0, rfl, hB, fun j u hu => ?_⟩
  rw [Nat.zero_add]
  have hj : j < S.length := by
    have := (List.getElem?_eq_some_iff.1 hu).1
    rw [bcells_len, List.length_set] at this
    exact this
  by_cases e : i = j
  · subst e
    rw [World.cell?_setCell_same _ _ _ (hc i hj)]
    simp [bcells, List.getElem?_set, hj] at hu
    first | exact hu | rw [← hu]
  · rw [World.cell?_setCell_other _ _ _ _ (by simp [e]), hc j hj]
    simp [bcells, List.getElem?_set, e, hj] at hu
    first | exact hu | rw [← hu]

set_option maxHeartbeats 4000000 in
set_option maxRecDepth 100000 in
theorem wireBack_any (x y : TR) (more : List UInt8) (at_ : Int) (w : World) (hx : x.ok w) (hy : y.ok w) (hm : more.length ≤ 1048576) (ha : -9223372036854775808 ≤ at_ ∧ at_ ≤ 9223372036854775807) :
    Calls Try.prog 5 #[.agg (pboxT x y), .string (bstr more), .int .i64 at_] w fun e w' => e = .returned (.bool true) ∧ Below w.heap.size w w' := by
  have HX := hid hx
  have HY := hid hy
  have HEN := hid (fun w1 (hb : Below w.heap.size w w1) => encode_any x y w1 (hx.step hb) (hy.step hb))
  have HS := hid (show codeS x.t y.t = if codeE x.t y.t = 0 then codeP x.t y.t else [] from rfl)
  have HTE := hid (show codeE x.t y.t = 0 → tabI x.t = 0 ∧ tabI y.t = 0 from fun h => by
    by_cases q : tabI x.t = 0
    · exact ⟨q, by rw [codeE, if_neg (by simp [q])] at h; exact h⟩
    · rw [codeE, if_pos q] at h; exact absurd h q)
  have H0 := hid encode_none
  have hl16 := noTab_len
  obtain ⟨P0, hP0⟩ : ∃ q, q = codeP noTab noTab := ⟨_, rfl⟩
  rw [← hP0] at H0 hl16
  obtain ⟨E, hE⟩ : ∃ q, q = codeE x.t y.t := ⟨_, rfl⟩
  obtain ⟨S, hS⟩ : ∃ q, q = codeS x.t y.t := ⟨_, rfl⟩
  rw [← hE, ← hS] at HEN HS
  rw [← hE] at HTE
  clear hP0 hE hS hx hy
  have hsz := bstr_size P0
  have HN1 := hid (fun w => by have := number_any (-1) w; rwa [numB_neg1] at this)
  have HN2 := hid (fun w => by have := number_any 64 w; rwa [numB_64] at this)
  obtain ⟨W, hW⟩ : ∃ W : World, W = w.alloc (.cells (pboxT x y) 31) := ⟨_, rfl⟩
  have HBW := hid (show Below w.heap.size w W by rw [hW]; exact alloc_below (Below.refl _ _) _)
  have HXA := hid (show Blk W w.heap.size (pboxT x y) 31 by rw [hW]; exact Blk.new _ _ _)
  go_enter Try.func5, Try.ntmps5
  go_upto_region 1 with fail
  rw [← hW]
  clear hW
  go_wp2_with fail
  -- STOP-a
  refine (H0.out _).mono ?_
  rintro e w1 ⟨rfl, hb1⟩
  have HX1 := hid (HXA.out.step hb1)
  replace HBW := hid (Below.step' HBW.out hb1)
  clear hb1 H0
  go_wp2_with fail
  -- STOP-b
  refine (HN1.out _).mono ?_
  rintro e w2 ⟨rfl, hb2⟩
  replace HX1 := hid (HX1.out.step hb2)
  replace HBW := hid (Below.step' HBW.out hb2)
  clear hb2 HN1
  go_wp2_with fail
  refine (HN2.out _).mono ?_
  rintro e w3 ⟨rfl, hb3⟩
  replace HX1 := hid (HX1.out.step hb3)
  replace HBW := hid (Below.step' HBW.out hb3)
  clear hb3 HN2
  obtain ⟨cHX1, fHX1, sHX1, nHX1⟩ := HX1.out.all
  try simp only [cbox] at cHX1
  go_wp2_with fail
  -- STOP-c
  refine (HEN.out _ HBW.out).mono ?_
  rintro e w4 ⟨rfl, hb4⟩
  clear cHX1 fHX1 sHX1 nHX1
  replace HX1 := hid (HX1.out.step hb4)
  replace HBW := hid (Below.step' HBW.out hb4)
  clear hb4 HEN
  by_cases q0 : E = 0
  rotate_left
  · have t1 : (E != 0) = true := by simpa using q0
    have HSE := hid (show S = [] by rw [HS.out, if_neg q0])
    clear q0
    rw [HSE.out]
    go_wp2_with fail
    -- STOP-d
    go_ret
    exact ⟨rfl, HBW.out⟩
  subst q0
  obtain ⟨tx, ty⟩ := HTE.out (by first | rfl | trivial)
  have HSC := hid (show S = codeP x.t y.t by rw [HS.out, if_pos rfl])
  have hSl : 0 < S.length ∧ S.length ≤ 60004 := by
    rw [HSC.out, codeP_len, List.length_append]
    have := (encT_len tx).1
    have := (encT_len ty).1
    omega
  have HDC := hid (dec_code (small_of tx) (small_of ty) tx ty more)
  have HDSH := hid (fun k (h : k < (codeP x.t y.t).length) => dec_short (small_of tx) (small_of ty) h)
  have HTU := hid (fun (B : List UInt8) (n : Nat) h1 h2 h3 => turned tx ty (B := B) (n := n) h1 h2 h3)
  rw [← HSC.out] at HDC HDSH HTU
  clear tx ty HTE HS HSC hl16 hsz
  have had := fun w => add_str S more w (by omega)
  have HD1 := hid (fun w => decode_any (S ++ more) (by rw [List.length_append]; omega) w)
  have hzS := bstr_size S
  go_wp2_with fail
  -- STOP-e
  refine (HD1.out _).mono ?_
  rintro e w5 ⟨z1, z2, n1, k1, rfl, hz1, hz2, hb5, hd5⟩
  have HZ1 := hid hz1
  have HZ2 := hid hz2
  replace HX1 := hid (HX1.out.step hb5)
  replace HBW := hid (Below.step' HBW.out hb5)
  have HQ1 := hid (show n1 = (S.length : Int) ∧ k1 = 0 ∧ z1.t = x.t ∧ z2.t = y.t by
    rcases hd5 with ⟨k, e1, e2, e3, e4⟩ | ⟨e1, -⟩
    · rw [HDC.out.1] at e1
      injection e1 with e1
      rw [HDC.out.2] at e4
      injection e4 with e4 e5
      exact ⟨by rw [e2, ← e1], e3, e4, e5⟩
    · rw [HDC.out.1] at e1; cases e1)
  clear hd5 hz1 hz2 hb5 HD1 HDC
  obtain ⟨rfl, rfl, hzx, hzy⟩ := HQ1.out
  have HZX := hid hzx
  have HZY := hid hzy
  clear hzx hzy HQ1
  have HRT := hid (fun w => rest_any at_ (S.length : Int) w (by omega) (by omega))
  have hr0 := Int.emod_nonneg at_ (show (S.length : Int) ≠ 0 by omega)
  have hr1 := Int.emod_lt_of_pos at_ (show 0 < (S.length : Int) by omega)
  obtain ⟨r, hr⟩ : ∃ r : Nat, at_ % (S.length : Int) = (r : Int) := ⟨(at_ % (S.length : Int)).toNat, by omega⟩
  rw [hr] at HRT hr0 hr1
  have hrl : r < S.length := by omega
  have hex := bstr_take S r (by omega)
  have HDS := hid (HDSH.out r hrl)
  have HD2 := hid (fun w => decode_any (S.take r) (by rw [List.length_take]; omega) w)
  clear hr HDSH
  go_wp2_with fail
  -- STOP-f
  obtain ⟨W6, hW6⟩ : ∃ q : World, q = w5.alloc (.cells (pboxT z1 z2) 31) := ⟨_, rfl⟩
  have HB6 := hid (show Below w5.heap.size w5 W6 by rw [hW6]; exact alloc_below (Below.refl _ _) _)
  have HXZ := hid (show Blk W6 w5.heap.size (pboxT z1 z2) 31 by rw [hW6]; exact Blk.new _ _ _)
  rw [← hW6]
  clear hW6
  replace HZ1 := hid (HZ1.out.step HB6.out)
  replace HZ2 := hid (HZ2.out.step HB6.out)
  replace HX1 := hid (HX1.out.step HB6.out)
  replace HBW := hid (Below.step' HBW.out HB6.out)
  refine (HRT.out _).mono ?_
  rintro e w7 ⟨rfl, hw7⟩
  subst hw7
  clear HRT
  go_wp2_with fail
  -- STOP-g
  refine (HD2.out _).mono ?_
  rintro e w8 ⟨z3, z4, n2, k2, rfl, hz3, hz4, hb8, hd8⟩
  have HQ2 := hid (show k2 = 5 by
    rcases hd8 with ⟨k, e1, -⟩ | ⟨-, -, e1, -⟩
    · rw [HDS.out] at e1; cases e1
    · exact e1)
  obtain rfl := HQ2.out
  replace HZ1 := hid (HZ1.out.step hb8)
  replace HZ2 := hid (HZ2.out.step hb8)
  replace HX1 := hid (HX1.out.step hb8)
  replace HXZ := hid (HXZ.out.step hb8)
  replace HBW := hid (Below.step' HBW.out hb8)
  clear hd8 hz3 hz4 hb8 HD2 HDS HQ2
  have HT1 := hid (fun w1 (hb : Below w8.heap.size w8 w1) => by
    have := sameTab_any z1 x w1 (HZ1.out.step hb) (HX.out.step (Below.step' HBW.out hb))
    rwa [(sameTB_iff _ _).2 HZX.out] at this)
  have HT2 := hid (fun w1 (hb : Below w8.heap.size w8 w1) => by
    have := sameTab_any z2 y w1 (HZ2.out.step hb) (HY.out.step (Below.step' HBW.out hb))
    rwa [(sameTB_iff _ _).2 HZY.out] at this)
  obtain ⟨W9, hW9⟩ : ∃ q : World, q = w8.alloc (.cells (pboxT z3 z4) 31) := ⟨_, rfl⟩
  have HB9 := hid (show Below w8.heap.size w8 W9 by rw [hW9]; exact alloc_below (Below.refl _ _) _)
  have HX9 := hid (HX1.out.step HB9.out)
  have HXZ9 := hid (HXZ.out.step HB9.out)
  have ht5 : ((5 : Int) != 5) = false := by decide
  go_upto_region 9 with fail
  rw [← hW9]
  clear hW9
  obtain ⟨cHX9, fHX9, sHX9, nHX9⟩ := HX9.out.all
  try simp only [cbox] at cHX9
  obtain ⟨cHXZ9, fHXZ9, sHXZ9, nHXZ9⟩ := HXZ9.out.all
  try simp only [cbox] at cHXZ9
  go_wp2_with fail
  -- STOP-h
  refine (HT1.out _ HB9.out).mono ?_
  rintro e w10 ⟨rfl, hb10⟩
  clear cHX9 fHX9 sHX9 nHX9
  clear cHXZ9 fHXZ9 sHXZ9 nHXZ9
  replace HX9 := hid (HX9.out.step hb10)
  replace HXZ9 := hid (HXZ9.out.step hb10)
  have HB10 := hid (Below.step' HB9.out hb10)
  clear hb10 HT1
  obtain ⟨cHX9, fHX9, sHX9, nHX9⟩ := HX9.out.all
  try simp only [cbox] at cHX9
  obtain ⟨cHXZ9, fHXZ9, sHXZ9, nHXZ9⟩ := HXZ9.out.all
  try simp only [cbox] at cHXZ9
  go_wp2_with fail
  -- STOP-i
  refine (HT2.out _ HB10.out).mono ?_
  rintro e w11 ⟨rfl, hb11⟩
  clear cHX9 fHX9 sHX9 nHX9
  clear cHXZ9 fHXZ9 sHXZ9 nHXZ9
  replace HX9 := hid (HX9.out.step hb11)
  have HB11 := hid (Below.step' HBW.out (Below.step' HB10.out hb11))
  clear hb11 HT2 HB10 HB9 HXZ9
  have hcv := run_bytes_of_string (P := Try.prog) w11 9 47 5 (bstr S) Try.underlying9 Try.underlying47 Try.underlying5
  rw [hzS] at hcv
  have hat8 := Int.emod_nonneg at_ (show (8 * (S.length : Int)) ≠ 0 by omega)
  have hat9 := Int.emod_lt_of_pos at_ (show 0 < 8 * (S.length : Int) by omega)
  obtain ⟨q, hq⟩ : ∃ q : Nat, at_ % (8 * (S.length : Int)) = (q : Int) := ⟨(at_ % (8 * (S.length : Int))).toNat, by omega⟩
  have HRT := hid (fun w => rest_any at_ (8 * (S.length : Int)) w (by omega) (by omega))
  rw [hq] at HRT hat8 hat9
  clear hq
  go_upto_region 12 with fail
  -- STOP-j
  obtain ⟨W12, hW12⟩ : ∃ q : World, q = (w11.alloc (.cells (bytesRow (bstr S) (grownCap w11 S.length 0 5)) 5 ((bytesRow (bstr S) (grownCap w11 S.length 0 5)).size, (bytesRow (bstr S) (grownCap w11 S.length 0 5)).size + 1))).drew := ⟨_, rfl⟩
  rw [← hW12]
  obtain ⟨hbc, hbf, hbs, HB12⟩ := row_new w11 S _ _ hW12
  clear hW12 hcv
  have HBC := hid hbc
  have HX12 := hid (HX9.out.step HB12)
  have HB13 := hid (Below.step' HB11.out HB12)
  obtain ⟨cp, hcp⟩ : ∃ q, q = grownCap w11 S.length 0 5 := ⟨_, rfl⟩
  rw [← hcp]
  have hcp2 : S.length ≤ cp := by rw [hcp]; exact grownCap_ge _ _ _ _
  clear hcp hbc HB12
  go_wp2_with fail
  -- STOP-k
  refine (HRT.out _).mono ?_
  rintro e w13 ⟨rfl, hw13⟩
  subst hw13
  go_wp2_with fail
  -- STOP-l
  have hil : q / 8 < S.length := by omega
  have hkl : q % 8 < 8 := Nat.mod_lt _ (by omega)
  have hqi : (q : Int).tdiv 8 = ((q / 8 : Nat) : Int) := by rw [Int.tdiv_eq_ediv_of_nonneg (by omega)]; omega
  have hqk : (q : Int).tmod 8 = ((q % 8 : Nat) : Int) := by rw [Int.tmod_eq_emod_of_nonneg (by omega)]; omega
  have hpk : IntKind.u8.wrap (2 ^ (q % 8)) = ((2 ^ (q % 8) : Nat) : Int) := by
    have h2 : (2 : Nat) ^ (q % 8) ≤ 2 ^ 7 := Nat.pow_le_pow_right (by omega) (by omega)
    have e : (2 : Int) ^ (q % 8) = ((2 ^ (q % 8) : Nat) : Int) := by simp
    rw [e, wrapU8]
    generalize (2 : Nat) ^ (q % 8) = m at h2 ⊢
    omega
  obtain ⟨b', hbn, hbx⟩ := turn_bit (S[q / 8]) (q % 8) hkl
  have hc0 := HBC.out (q / 8) hil
  have hf0 := hbf (q / 8) hil
  obtain ⟨pw, hpw⟩ : ∃ p : Nat, p = 2 ^ (q % 8) := ⟨_, rfl⟩
  rw [← hpw] at hpk hbx
  obtain ⟨i, hi⟩ : ∃ i, i = q / 8 := ⟨_, rfl⟩
  obtain ⟨k, hk⟩ : ∃ i, i = q % 8 := ⟨_, rfl⟩
  rw [← hk] at hqk hpk hkl
  have hlb : b'.toNat < 256 := b8_lt b'
  obtain ⟨c0, hc00⟩ : ∃ c, c = S[q / 8] := ⟨_, rfl⟩
  rw [← hc00] at hc0 hbx hbn
  have hc1 : S[q / 8]? = some c0 := by rw [hc00]; exact List.getElem?_eq_getElem hil
  clear hc00 hbf
  rw [← hi] at hqi hil hc0 hf0 hc1
  have HC1 := hid hc1
  have HBN := hid hbn
  clear hpw hk hi hc1 hbn
  go_big_region
  -- STOP-m
  obtain ⟨W14, hW14⟩ : ∃ q : World, q = (w13.setCell ⟨w11.heap.size, i, none⟩ (.int .u8 (b'.toNat : Int))).drew := ⟨_, rfl⟩
  rw [← hW14]
  have HB14 := hid (show Below w.heap.size w W14 by rw [hW14]; exact (HB13.out.setCell (p := ⟨w11.heap.size, i, none⟩) HB11.out.size _).drew)
  have HX14 := hid (show Blk W14 w.heap.size (pboxT x y) 31 by
    rw [hW14]
    exact (HX12.out.other (a := ⟨w11.heap.size, i, none⟩) (Nat.ne_of_lt HX9.out.lt) _).drew)
  have hs14 : W14.heap.size = w11.heap.size + 1 := by
    rw [hW14]
    show (w13.setCell _ _).heap.size = _
    rw [World.size_setCell, hbs]
  have hrow := row_turned HBC.out (by omega) i b' W14.heap.size (by omega)
  have hrow2 : Row W14 W14.heap.size (some ⟨w11.heap.size, 0, none⟩) (bcells (S.set i b')) := by
    rw [hW14] at hrow ⊢; exact hrow
  clear hW14 hrow
  have hne : S.set i b' ≠ S := fun e => by
    have h1 : (S.set i b')[i]? = some b' := by simp [hil]
    rw [e, HC1.out] at h1
    injection h1 with h1
    exact HBN.out h1.symm
  have hle : (S.set i b').length = S.length := List.length_set ..
  obtain ⟨S2, hS2⟩ : ∃ q, q = S.set i b' := ⟨_, rfl⟩
  rw [← hS2] at hrow2 hne hle
  have hcv2 := conv_row (c := cp) hrow2 (by omega)
  rw [hle] at hcv2
  have HD3 := hid (fun w => decode_any S2 (by omega) w)
  have HNT := hid (fun n => HTU.out S2 n hle hne)
  clear hS2 hrow2 hne hle HBC HC1 HBN hf0 hc0 hbx hpk hqi hqk hs14 hbs
  go_wp2_with fail
  -- STOP-n
  refine (HD3.out _).mono ?_
  rintro e w15 ⟨z5, z6, n3, k3, rfl, hz5, hz6, hb15, hd15⟩
  have HQ3 := hid (show k3 = 5 ∨ (k3 = 0 ∧ ¬ (z5.t = x.t ∧ z6.t = y.t)) by
    rcases hd15 with ⟨k, e1, e2, e3, e4⟩ | ⟨e1, -, e2, -⟩
    · refine .inr ⟨e3, fun h => HNT.out _ e1 ?_⟩
      rw [← e4, h.1, h.2]
    · exact .inl e2)
  have HX15 := hid (HX14.out.step hb15)
  have HB15 := hid (Below.step' HB14.out hb15)
  have HZ5 := hid hz5
  have HZ6 := hid hz6
  clear hd15 hz5 hz6 hb15 HD3 HNT
  obtain ⟨W16, hW16⟩ : ∃ q : World, q = w15.alloc (.cells (pboxT z5 z6) 31) := ⟨_, rfl⟩
  have HB16 := hid (show Below w15.heap.size w15 W16 by rw [hW16]; exact alloc_below (Below.refl _ _) _)
  have HX16 := hid (HX15.out.step HB16.out)
  have HXZ := hid (show Blk W16 w15.heap.size (pboxT z5 z6) 31 by rw [hW16]; exact Blk.new _ _ _)
  have HT1 := hid (fun w1 (hb : Below w15.heap.size w15 w1) => sameTab_any z5 x w1 (HZ5.out.step hb) (HX.out.step (Below.step' HB15.out hb)))
  have HT2 := hid (fun w1 (hb : Below w15.heap.size w15 w1) => sameTab_any z6 y w1 (HZ6.out.step hb) (HY.out.step (Below.step' HB15.out hb)))
  go_upto_region 15 with fail
  rw [← hW16]
  clear hW16
  rcases HQ3.out with rfl | ⟨rfl, hno⟩
  · have t5 : ((5 : Int) != 0) = true := by decide
    go_wp2_with fail
    -- STOP-o
    go_ret
    exact ⟨rfl, Below.step' HB15.out HB16.out⟩
  have HNO := hid (show sameTB z5.t x.t = true → sameTB z6.t y.t = false from fun h => by
    by_cases q : sameTB z6.t y.t = true
    · exact absurd ⟨(sameTB_iff _ _).1 h, (sameTB_iff _ _).1 q⟩ hno
    · simpa using q)
  clear hno HQ3
  have t0 : ((0 : Int) != 0) = false := by decide
  obtain ⟨cHX16, fHX16, sHX16, nHX16⟩ := HX16.out.all
  try simp only [cbox] at cHX16
  obtain ⟨cHXZ, fHXZ, sHXZ, nHXZ⟩ := HXZ.out.all
  try simp only [cbox] at cHXZ
  go_wp2_with fail
  -- STOP-p
  refine (HT1.out _ HB16.out).mono ?_
  rintro e w17 ⟨rfl, hb17⟩
  clear cHX16 fHX16 sHX16 nHX16
  clear cHXZ fHXZ sHXZ nHXZ
  replace HX16 := hid (HX16.out.step hb17)
  replace HXZ := hid (HXZ.out.step hb17)
  have HB17 := hid (Below.step' HB16.out hb17)
  clear hb17 HT1
  by_cases q1 : sameTB z5.t x.t = true
  rotate_left
  · have q2 : sameTB z5.t x.t = false := by simpa using q1
    rw [q2]
    clear q1 HNO q2
    go_wp2_with fail
    go_ret
    exact ⟨rfl, Below.step' HB15.out HB17.out⟩
  have q2 := HNO.out q1
  rw [q1]
  have HQ2 := hid q2
  clear q1 q2 HNO
  obtain ⟨cHX16, fHX16, sHX16, nHX16⟩ := HX16.out.all
  try simp only [cbox] at cHX16
  obtain ⟨cHXZ, fHXZ, sHXZ, nHXZ⟩ := HXZ.out.all
  try simp only [cbox] at cHXZ
  go_wp2_with fail
  refine (HT2.out _ HB17.out).mono ?_
  rintro e w18 ⟨rfl, hb18⟩
  rw [HQ2.out]
  go_wp2_with fail
  go_ret
  exact ⟨rfl, Below.step' HB15.out (Below.step' HB17.out hb18)⟩
end Go.Proofs.Ytnnabfjlmenmgaa
