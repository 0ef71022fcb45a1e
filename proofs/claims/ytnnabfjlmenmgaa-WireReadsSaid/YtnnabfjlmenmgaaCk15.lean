/- Wra, Wrb, Wrc, Wrf -/
import Derived.Test.YtnnabfjlmenmgaaCk09
import Derived.Test.YtnnabfjlmenmgaaCk01
import Derived.Test.YtnnabfjlmenmgaaCk10
import Derived.Test.YtnnabfjlmenmgaaCk07
/- viewref.ReadNumber. -/
namespace Go.Proofs.Ytnnabfjlmenmgaa
set_option linter.unusedVariables false
set_option linter.unusedSimpArgs false
open Go.ChangeShapes Go.WideShapes Go.ChangeAt Go.RowKit

/-- What ReadNumber tells. -/
def rnP (D : List UInt8) : Int × Nat := match readN D with
  | some p => p
  | none => (0, 0)
theorem low_next (D : List UInt8) (j u N : Nat) (h : N = low D (j + 1) + 128 ^ (j + 1) * u) : N = low D j + 128 ^ j * (u * 128 + (D.getD j 0).toNat % 128) := by
  rw [h, low, Nat.pow_succ, Nat.mul_add]
  have h1 : 128 ^ j * 128 * u = 128 ^ j * (u * 128) := by rw [Nat.mul_assoc, Nat.mul_comm 128 u]
  have h2 : (D.getD j 0).toNat % 128 * 128 ^ j = 128 ^ j * ((D.getD j 0).toNat % 128) := Nat.mul_comm _ _
  omega
theorem low_le {D : List UInt8} {j u N : Nat} (h : N = low D j + 128 ^ j * u) : u ≤ N := by
  have h1 : 1 * u ≤ 128 ^ j * u := Nat.mul_le_mul_right u (Nat.pow_pos (by omega))
  omega
theorem wrap_step (u c : Nat) (h : u * 128 + c % 128 < 9223372036854775808) (hc : c < 256) : IntKind.u64.wrap (IntKind.u64.wrap ((u : Int) * 128) + (IntKind.u64.wrap (c : Int)).tmod 128) = ((u * 128 + c % 128 : Nat) : Int) := by
  have e1 : IntKind.u64.wrap ((u : Int) * 128) = (u : Int) * 128 := by rw [wrapU64]; omega
  have e2 : IntKind.u64.wrap (c : Int) = (c : Int) := by rw [wrapU64]; omega
  rw [e1, e2, wrapU64, Int.tmod_eq_emod_of_nonneg (by omega)]
  omega
set_option maxHeartbeats 4000000 in
set_option maxRecDepth 100000 in
theorem readnum_any (D : List UInt8) (hD : D.length ≤ 9223372036854775807) (w : World) :
    Calls Try.prog 27 #[.string (bstr D)] w fun e w' => e = .returned (.tuple #[.int .i64 (rnP D).1, .int .i64 ((rnP D).2 : Int)]) ∧ Below w.heap.size w w' := by
  have hsz := bstr_size D
  have HNX := hid (show ∀ n k, readN D = some (n, k) → rnP D = (n, k) from fun n k h => by simp only [rnP]; rw [h])
  have HNN := hid (show readN D = none → rnP D = (0, 0) from fun h => by simp only [rnP]; rw [h])
  obtain ⟨R, hR⟩ : ∃ q, q = rnP D := ⟨_, rfl⟩
  rw [← hR] at HNX HNN ⊢
  clear hR
  go_enter Try.func27, Try.ntmps27
  go_wp2_with fail
  -- STOP-a
  go_loop [4] (fun s4 => ∃ i : Nat, i ≤ 9 ∧ i ≤ D.length ∧ s4 = .int .i64 i ∧ Hid (∀ j, j < i → 128 ≤ (D.getD j 0).toNat)) (fun s4 => 9 - (intOf s4).toNat)
  case atStart => exact ⟨0, by omega, by omega, rfl, hid (fun j h => by omega)⟩
  case round =>
    obtain ⟨i, hi, hil, rfl, HJ⟩ := hrel
    by_cases hlt : i < D.length
    rotate_left
    · have hil : i = D.length := by omega
      have t1 : ((i : Int) < (D.length : Int)) = False := eq_false (by omega)
      have t2 : ((i : Int) == (D.length : Int)) = true := by rw [hil]; simp
      have HN := hid (HNN.out (readN_none fun j h1 h2 => HJ.out j (by omega)))
      clear hil
      go_wp2_with fail
      -- STOP-b
      go_ret2
      exact ⟨by rw [HN.out]; rfl, Below.refl _ _⟩
    have t1 : ((i : Int) < (D.length : Int)) = True := eq_true (by omega)
    have t2 : ((i : Int) == (D.length : Int)) = false := beq_eq_false_iff_ne.2 (by omega)
    by_cases h9 : i < 9
    rotate_left
    · have hi9 : i = 9 := by omega
      subst hi9
      have HN := hid (HNN.out (readN_none fun j h1 h2 => HJ.out j (by omega)))
      go_wp2_with fail
      go_ret2
      exact ⟨by rw [HN.out]; rfl, Below.refl _ _⟩
    have t9 : ((i : Int) < 9) = True := eq_true (by omega)
    have t9' : ((i : Int) == 9) = false := beq_eq_false_iff_ne.2 (by omega)
    have hgi := bstr_get D i hlt
    have HGD := hid (show D[i] = D.getD i 0 by rw [List.getD_eq_getElem?_getD, List.getElem?_eq_getElem hlt]; rfl)
    generalize D[i] = b at *
    have hb := b8_lt b
    by_cases hb8 : 128 ≤ b.toNat
    · have tb : (128 ≤ (b.toNat : Int)) = True := eq_true (by omega)
      have HB8 := hid hb8
      clear hb8
      go_wp2_with fail
      -- STOP-c
      go_round
      case rel =>
        refine ⟨i + 1, by omega, by omega, by go_num, hid (fun j hj => ?_)⟩
        by_cases q : j < i
        · exact HJ.out j q
        · have : j = i := by omega
          subst this
          rw [← HGD.out]; exact HB8.out
      case measure => simp [intOf]; omega
    have tb : (128 ≤ (b.toNat : Int)) = False := eq_false (by omega)
    have HRD := hid (readN_low (l := D) (k := i) hlt h9 HJ.out (by rw [← HGD.out]; omega))
    rw [← HGD.out] at HRD
    by_cases hz : b.toNat = 0 ∧ 0 < i
    · have tz : ((b.toNat : Int) == 0) = true := by simp [hz.1]
      have tz2 : (0 < (i : Int)) = True := eq_true (by omega)
      have tz3 : (0 < i) = True := eq_true hz.2
      have HN := hid (HNN.out (by rw [HRD.out, if_pos hz]))
      clear hz
      go_wp2_with fail
      -- STOP-d
      go_ret2
      exact ⟨by rw [HN.out]; rfl, Below.refl _ _⟩
    have HN := hid (HNX.out _ _ (by rw [HRD.out, if_neg hz]))
    have hzc : ((0 < i) = False) ∨ ((0 < i) = True ∧ ((b.toNat : Int) == 0) = false) := by
      by_cases q : 0 < i
      · exact .inr ⟨eq_true (by omega), beq_eq_false_iff_ne.2 (by have : ¬ b.toNat = 0 := fun h => hz ⟨h, q⟩; omega)⟩
      · exact .inl (eq_false (by omega))
    have HU := hid (low_lt D (i + 1))
    have hU9 : low D (i + 1) < 9223372036854775808 := by
      have h1 := HU.out
      have h2 : (128 : Nat) ^ (i + 1) ≤ 128 ^ 9 := Nat.pow_le_pow_right (by omega) (by omega)
      have h3 : (128 : Nat) ^ 9 = 9223372036854775808 := by decide
      omega
    clear hz HJ HRD HU HNN HNX HGD tb
    rcases hzc with tz | ⟨tz, tz3⟩
    all_goals
      go_wp2_with fail
      -- STOP-e
      go_loop [5, 6] (fun s5 s6 => ∃ j u : Nat, j ≤ i + 1 ∧ s6 = .int .i64 ((j : Int) - 1) ∧ s5 = .int .u64 (u : Int) ∧ low D (i + 1) = low D j + 128 ^ j * u) (fun _ s6 => ((intOf s6) + 1).toNat)
      case atStart => exact ⟨i + 1, 0, by omega, by rw [show (((i + 1 : Nat) : Int) - 1) = i by omega], rfl, by omega⟩
      case round =>
        obtain ⟨j, u, hj, rfl, rfl, hu⟩ := hrel
        cases j with
        | zero =>
          have t0 : ((0 : Nat) : Int) - 1 = -1 := by omega
          have hu' : low D (i + 1) = u := by rw [hu]; show 0 + 128 ^ 0 * u = u; omega
          rw [hu'] at HN hU9
          clear hu hu' hj
          have hw1 : IntKind.i64.wrap ((u : Int) / 2) = (u : Int) / 2 := IntWalk.i64_in _ (by omega)
          rw [t0]
          clear t0
          by_cases ho : u % 2 = 1
          · have HO := hid (show zig u = -((u : Int) / 2) - 1 by unfold zig; rw [if_pos ho]; omega)
            have hm : (u : Int) % 2 = 1 := by omega
            have hm2 : (u : Int).tmod 2 = 1 := by rw [Int.tmod_eq_emod_of_nonneg (by omega)]; omega
            have hd2 : (u : Int).tdiv 2 = (u : Int) / 2 := Int.tdiv_eq_ediv_of_nonneg (by omega)
            clear ho
            go_wp2_with fail
            -- STOP-g
            go_ret2
            refine ⟨?_, Below.refl _ _⟩
            rw [HN.out, HO.out]; rfl
          · have HO := hid (show zig u = (u : Int) / 2 by unfold zig; rw [if_neg ho]; omega)
            have hm : (u : Int) % 2 = 0 := by omega
            have hm2 : (u : Int).tmod 2 = 0 := by rw [Int.tmod_eq_emod_of_nonneg (by omega)]; omega
            have hd2 : (u : Int).tdiv 2 = (u : Int) / 2 := Int.tdiv_eq_ediv_of_nonneg (by omega)
            clear ho
            go_wp2_with fail
            -- STOP-h
            go_ret2
            refine ⟨?_, Below.refl _ _⟩
            rw [HN.out, HO.out]; rfl
        | succ j =>
          have t0 : ((j + 1 : Nat) : Int) - 1 = j := by omega
          rw [t0]
          have hjl : j < D.length := by omega
          go_wp2_with fail
          -- STOP-f
          have hn := low_next D j u _ hu
          have hle := low_le hn
          have hgj : ((bstr D)[j]'(by rw [hsz]; exact hjl)) = D.getD j 0 := by
            rw [bstr_get D j hjl, List.getD_eq_getElem?_getD, List.getElem?_eq_getElem hjl]; rfl
          refine ⟨⟨j, u * 128 + (D.getD j 0).toNat % 128, by omega, rfl, ?_, hn⟩, ?_⟩
          · rw [hgj, wrap_step _ _ (by omega) (b8_lt _)]
          · simp [intOf]
end Go.Proofs.Ytnnabfjlmenmgaa
/- viewref.Decoded: its two closures. -/
namespace Go.Proofs.Ytnnabfjlmenmgaa
set_option linter.unusedVariables false
set_option linter.unusedSimpArgs false
open Go.ChangeShapes Go.WideShapes Go.ChangeAt Go.RowKit

theorem bstr_drop (L : List UInt8) (a : Nat) : (bstr L).extract a L.length = bstr (L.drop a) := by
  apply ByteArray.ext
  rw [ByteArray.data_extract]
  simp
  rw [List.take_of_length_le (by rw [List.length_drop]; omega)]
/-- All stands but two blocks. -/
structure But (w w' : World) (p q : Nat) : Prop where
  os : w'.os = w.os
  tape : w'.tape = w.tape
  output : w'.output = w.output
  size : w.heap.size ≤ w'.heap.size
  block : ∀ k, k < w.heap.size → k ≠ p → k ≠ q → w'.heap[k]? = w.heap[k]?
theorem But.refl (w : World) (p q : Nat) : But w w p q := ⟨rfl, rfl, rfl, Nat.le_refl _, fun _ _ _ _ => rfl⟩
theorem But.trans {w w1 w2 : World} {p q : Nat} (h1 : But w w1 p q) (h2 : But w1 w2 p q) : But w w2 p q :=
  ⟨h2.os.trans h1.os, h2.tape.trans h1.tape, h2.output.trans h1.output, Nat.le_trans h1.size h2.size, fun k hk hp hq => (h2.block k (Nat.lt_of_lt_of_le hk h1.size) hp hq).trans (h1.block k hk hp hq)⟩
theorem But.below {w w' : World} {p q : Nat} (h : Below w.heap.size w w') : But w w' p q := ⟨h.os, h.tape, h.output, h.size, fun k hk _ _ => h.block k hk⟩
theorem But.set {w w' : World} {p q : Nat} (h : But w w' p q) (a : Addr) (v : Value) (ha : a.block = p ∨ a.block = q) : But w (w'.setCell a v) p q :=
  ⟨h.os, h.tape, h.output, by rw [World.size_setCell]; exact h.size, fun k hk hp hq => by
    rw [← h.block k hk hp hq]
    simp only [World.setCell, Array.getElem?_modify]
    rw [if_neg (fun e => by rcases ha with ha | ha <;> omega)]⟩
theorem Blk.but {w w' : World} {p q b : Nat} {cs : Array Value} {T : TypeId} (h : Blk w b cs T) (hb : But w w' p q) (hp : b ≠ p) (hq : b ≠ q) : Blk w' b cs T := (hb.block b h.lt hp hq).trans h
/-- How far Decoded has read: how many bytes, and is all well. -/
def DSt (L : List UInt8) (st : Option Nat) (a : Nat) (ok : Bool) : Prop := a ≤ L.length ∧ ((st = some a ∧ ok = true) ∨ (st = none ∧ ok = false))
def NPost (L : List UInt8) (ob ab : Nat) (n : Int) (st : Option Nat) (w : World) (e : Ending) (w' : World) : Prop :=
  ∃ (a : Nat) (ok : Bool), e = .returned (.int .i64 n) ∧ Blk w' ob #[.bool ok] 4 ∧ Blk w' ab #[.int .i64 (a : Int)] 3 ∧ DSt L st a ok ∧ But w w' ob ab
set_option maxHeartbeats 4000000 in
set_option maxRecDepth 100000 in
theorem dnext_any (L : List UInt8) (hL : L.length ≤ 9223372036854775807) (st : Option Nat) (a : Nat) (ok : Bool) (ob sb ab : Nat) (w : World) (ho : Blk w ob #[.bool ok] 4) (hs : Blk w sb #[.string (bstr L)] 9) (ha : Blk w ab #[.int .i64 (a : Int)] 3) (hst : DSt L st a ok) (hne : ob ≠ ab) :
    Calls Try.prog 26 #[.pointer (some ⟨ob, 0, none⟩), .pointer (some ⟨sb, 0, none⟩), .pointer (some ⟨ab, 0, none⟩)] w (NPost L ob ab (nx L st).1 (nx L st).2 w) := by
  have HO := hid ho
  have HS := hid hs
  have HA := hid ha
  obtain ⟨hal, hst⟩ := hst
  have nea : (ob = ab) = False := eq_false hne
  have nea' : (ab = ob) = False := eq_false (Ne.symm hne)
  clear ho hs ha
  rcases hst with ⟨rfl, rfl⟩ | ⟨rfl, rfl⟩
  rotate_left
  · go_enter Try.func26, Try.ntmps26
    obtain ⟨cHO, fHO, sHO, nHO⟩ := HO.out.all
    try simp only [cbox] at cHO
    obtain ⟨cHA, fHA, sHA, nHA⟩ := HA.out.all
    try simp only [cbox] at cHA
    go_wp2_with fail
    -- STOP-a
    go_ret
    exact ⟨a, false, rfl, HO.out.other (Ne.symm (fun e => hne e.symm)) _, HA.out.set 0 _, ⟨hal, .inr ⟨rfl, rfl⟩⟩, (But.refl _ _ _).set _ _ (.inr rfl)⟩
  · have HR := hid (readnum_any (L.drop a) (by rw [List.length_drop]; omega) w)
    have hbd := bstr_drop L a
    go_enter Try.func26, Try.ntmps26
    obtain ⟨cHO, fHO, sHO, nHO⟩ := HO.out.all
    try simp only [cbox] at cHO
    obtain ⟨cHA, fHA, sHA, nHA⟩ := HA.out.all
    try simp only [cbox] at cHA
    obtain ⟨cHS, fHS, sHS, nHS⟩ := HS.out.all
    try simp only [cbox] at cHS
    go_wp2_with fail
    -- STOP-b
    refine HR.out.mono ?_
    rintro e w1 ⟨rfl, hb1⟩
    clear cHO fHO sHO nHO
    clear cHA fHA sHA nHA
    clear cHS fHS sHS nHS
    have HB1 := hid hb1
    replace HO := hid (HO.out.step hb1)
    replace HA := hid (HA.out.step hb1)
    replace HS := hid (HS.out.step hb1)
    clear hb1 HR hbd
    cases hR : readN (L.drop a) with
    | none =>
      have e1 : rnP (L.drop a) = (0, 0) := by simp only [rnP]; rw [hR]
      have e2 : nx L (some a) = (0, none) := by simp only [nx]; rw [hR]
      rw [e1]
      have HE2 := hid e2
      clear e1 e2 hR
      obtain ⟨cHO, fHO, sHO, nHO⟩ := HO.out.all
      try simp only [cbox] at cHO
      obtain ⟨cHA, fHA, sHA, nHA⟩ := HA.out.all
      try simp only [cbox] at cHA
      go_wp2_with fail
      -- STOP-c
      go_ret
      exact ⟨a, false, by rw [HE2.out]; rfl, (HO.out.set 0 (.bool false)).other hne _, ((HA.out.other (Ne.symm hne) _).set 0 _), ⟨hal, .inr ⟨by rw [HE2.out], rfl⟩⟩, But.set (But.set (But.below HB1.out) ⟨ob, 0, none⟩ _ (.inl rfl)) ⟨ab, 0, none⟩ _ (.inr rfl)⟩
    | some p =>
      obtain ⟨n, k⟩ := p
      have e1 : rnP (L.drop a) = (n, k) := by simp only [rnP]; rw [hR]
      have e2 : nx L (some a) = (n, some (a + k)) := by simp only [nx]; rw [hR]
      have hk := readN_le hR
      rw [List.length_drop] at hk
      rw [e1]
      have HE2 := hid e2
      have t1 : (0 < (k : Int)) = True := eq_true (by omega)
      have t2 : (0 < k) = True := eq_true (by omega)
      have hw1 : IntKind.i64.wrap ((a : Int) + (k : Int)) = ((a + k : Nat) : Int) := by rw [IntKind.wrap_i64]; omega
      clear e1 e2 hR
      obtain ⟨cHO, fHO, sHO, nHO⟩ := HO.out.all
      try simp only [cbox] at cHO
      obtain ⟨cHA, fHA, sHA, nHA⟩ := HA.out.all
      try simp only [cbox] at cHA
      go_wp2_with fail
      -- STOP-d
      go_ret
      exact ⟨a + k, true, by rw [HE2.out]; rfl, (HO.out.set 0 (.bool true)).other hne _, ((HA.out.other (Ne.symm hne) _).set 0 _), ⟨by omega, .inl ⟨by rw [HE2.out], rfl⟩⟩, But.set (But.set (But.below HB1.out) ⟨ob, 0, none⟩ _ (.inl rfl)) ⟨ab, 0, none⟩ _ (.inr rfl)⟩
theorem enters_dnext : ∀ args w, (callFunc 26 args).run Try.prog w = .ok (.enter 26 args) w := fun args w => by kernel_rfl
set_option maxHeartbeats 4000000 in
set_option maxRecDepth 100000 in
theorem dmany_any (L : List UInt8) (hL : L.length ≤ 9223372036854775807) (st : Option Nat) (a : Nat) (ok : Bool) (ob sb ab nb : Nat) (w : World) (hn : Blk w nb #[.func (.func 26) #[] #[.pointer (some ⟨ob, 0, none⟩), .pointer (some ⟨sb, 0, none⟩), .pointer (some ⟨ab, 0, none⟩)]] 68) (ho : Blk w ob #[.bool ok] 4) (hs : Blk w sb #[.string (bstr L)] 9) (ha : Blk w ab #[.int .i64 (a : Int)] 3) (hst : DSt L st a ok) (hne : ob ≠ ab) :
    Calls Try.prog 28 #[.pointer (some ⟨nb, 0, none⟩), .pointer (some ⟨ob, 0, none⟩)] w (NPost L ob ab ((mn L st).1 : Int) (mn L st).2 w) := by
  have HD := hid (dnext_any L hL st a ok ob sb ab w ho hs ha hst hne)
  have HN := hid hn
  have hent := enters_dnext
  clear hn ho hs ha hst
  have HML := hid (mn_low (L := L) (st := st))
  have HMK := hid (mn_ok (L := L) (st := st))
  obtain ⟨R, hR⟩ : ∃ R, R = mn L st := ⟨_, rfl⟩
  rw [← hR] at HML HMK ⊢
  clear hR
  go_enter Try.func28, Try.ntmps28
  obtain ⟨cHN, fHN, sHN, nHN⟩ := HN.out.all
  try simp only [cbox] at cHN
  go_wp2_with fail
  -- STOP-e
  refine HD.out.mono ?_
  rintro e w1 ⟨a1, ok1, rfl, ho1, ha1, ⟨hal, hst⟩, hb1⟩
  clear cHN fHN sHN nHN
  have HO := hid ho1
  have HA := hid ha1
  have HB := hid hb1
  clear ho1 ha1 hb1 HD
  rcases hst with ⟨hs, rfl⟩ | ⟨hs, rfl⟩
  · by_cases hz : (nx L st).1 < 0 ∨ 400 < (nx L st).1
    · have HR := hid (HML.out hz)
      have hin : inB (nx L st).1 0 400 = false := by
        unfold inB
        rcases hz with h | h
        · simp; omega
        · simp; omega
      clear hz hs HML HMK
      generalize (nx L st).1 = n at *
      obtain ⟨cHO, fHO, sHO, nHO⟩ := HO.out.all
      try simp only [cbox] at cHO
      go_wp2_with (go_at_call 21; refine (in_any _ _ _ _).mono ?_; rintro e w' ⟨rfl, rfl⟩; rw [hin])
      -- STOP-f
      go_ret
      rw [HR.out]
      exact ⟨a1, false, rfl, HO.out.set 0 _, HA.out.other (Ne.symm hne) _, ⟨hal, .inr ⟨rfl, rfl⟩⟩, But.set HB.out ⟨ob, 0, none⟩ _ (.inl rfl)⟩
    · have HR := hid (HMK.out hz)
      rw [hs] at HR
      have hin : inB (nx L st).1 0 400 = true := by unfold inB; simp; omega
      have HNN := hid (show ((nx L st).1.toNat : Int) = (nx L st).1 by omega)
      clear hz hs HML HMK
      generalize (nx L st).1 = n at *
      obtain ⟨cHO, fHO, sHO, nHO⟩ := HO.out.all
      try simp only [cbox] at cHO
      go_wp2_with (go_at_call 21; refine (in_any _ _ _ _).mono ?_; rintro e w' ⟨rfl, rfl⟩; rw [hin])
      -- STOP-g
      go_ret
      rw [HR.out]
      exact ⟨a1, true, by rw [HNN.out]; rfl, HO.out.set 0 _, HA.out.other (Ne.symm hne) _, ⟨hal, .inl ⟨rfl, rfl⟩⟩, But.set HB.out ⟨ob, 0, none⟩ _ (.inl rfl)⟩
  · have HR := hid (show R = (0, none) by
      by_cases hz : (nx L st).1 < 0 ∨ 400 < (nx L st).1
      · exact HML.out hz
      · rw [HMK.out hz, hs]
        have : (nx L st).1 = 0 := by
          cases st with
          | none => rfl
          | some a =>
            simp only [nx] at hs ⊢
            cases h : readN (L.drop a) with
            | none => rfl
            | some p => rw [h] at hs; simp at hs
        rw [this]; rfl)
    clear hs HML HMK
    generalize (nx L st).1 = n at *
    obtain ⟨cHO, fHO, sHO, nHO⟩ := HO.out.all
    try simp only [cbox] at cHO
    go_wp2_with fail
    -- STOP-h
    go_ret
    rw [HR.out]
    exact ⟨a1, false, rfl, HO.out.set 0 _, HA.out.other (Ne.symm hne) _, ⟨hal, .inr ⟨rfl, rfl⟩⟩, But.set HB.out ⟨ob, 0, none⟩ _ (.inl rfl)⟩
end Go.Proofs.Ytnnabfjlmenmgaa
/- viewref.Decoded in memory. -/
namespace Go.Proofs.Ytnnabfjlmenmgaa
set_option linter.unusedVariables false
set_option linter.unusedSimpArgs false
open Go.ChangeShapes Go.WideShapes Go.ChangeAt Go.RowKit

theorem But.bel {w w1 w2 : World} {p q B : Nat} (h : But w1 w2 p q) (hb : Below B w w1) (hB : B ≤ w1.heap.size) (hp : B ≤ p) (hq : B ≤ q) : Below B w w2 :=
  ⟨h.os.trans hb.os, h.tape.trans hb.tape, h.output.trans hb.output, Nat.le_trans hb.size h.size, fun k hk => (h.block k (by omega) (by omega) (by omega)).trans (hb.block k hk)⟩
theorem own_but {w w' : World} {B n s p q : Nat} {T : TypeId} {v : Value} {xs : List Value} (h : w.ownsRow B T s v n xs) (hb : But w w' p q) (hp : p < B) (hq : q < B) : w'.ownsRow B T s v n xs := by
  obtain ⟨h1, h2⟩ := h
  refine ⟨h1, ?_⟩
  rcases h2 with h2 | ⟨b, cap, cur, e, hbb, hgt, h3⟩
  · exact .inl h2
  · refine .inr ⟨b, cap, cur, e, hbb, ?_, h3⟩
    have hlt : b < w.heap.size := by
      rcases Nat.lt_or_ge b w.heap.size with q | q
      · exact q
      · rw [Array.getElem?_eq_none q] at hgt; cases hgt
    rw [hb.block b hlt (by omega) (by omega)]
    exact hgt
theorem own_setlo {w : World} {B n s : Nat} {T : TypeId} {v : Value} {xs : List Value} (h : w.ownsRow B T s v n xs) (a : Addr) (x : Value) (ha : a.block < B) : (w.setCell a x).ownsRow B T s v n xs :=
  own_but h (p := a.block) (q := a.block) (But.set (But.refl _ _ _) a x (.inl rfl)) ha ha
/-! a window in a block -/
theorem win_get (pre x post : Array Value) (j : Nat) (hj : j < x.size) : (pre ++ x ++ post)[pre.size + j]? = x[j]? := by
  rw [Array.getElem?_append_left (by rw [Array.size_append]; omega), Array.getElem?_append_right (by omega), Nat.add_sub_cancel_left]
theorem win_set (pre x post : Array Value) (j : Nat) (hj : j < x.size) (v : Value) : (pre ++ x ++ post).setIfInBounds (pre.size + j) v = pre ++ x.setIfInBounds j v ++ post := by
  apply Array.ext'
  simp only [Array.toList_setIfInBounds, Array.toList_append]
  rw [List.set_append_left _ _ (by simp; omega), List.set_append_right _ _ (by simp)]
  simp
/-- Where Decoded stands. -/
structure DB (L : List UInt8) (w wr : World) (sb rb ab ob nb pb : Nat) (st : Option Nat) (PC : Array Value) : Prop where
  ex : ∃ (a : Nat) (ok : Bool), Blk wr ab #[.int .i64 (a : Int)] 3 ∧ Blk wr ob #[.bool ok] 4 ∧ DSt L st a ok
  s : Blk wr sb #[.string (bstr L)] 9
  r : Blk wr rb #[.int .i64 0, .int .i64 0, .int .i64 0, .int .i64 0, .slice none 0 0, .slice none 0 0, .int .i64 0, .int .i64 0, .int .i64 0, .int .i64 0, .slice none 0 0, .slice none 0 0] 31
  n : Blk wr nb #[.func (.func 26) #[] #[.pointer (some ⟨ob, 0, none⟩), .pointer (some ⟨sb, 0, none⟩), .pointer (some ⟨ab, 0, none⟩)]] 68
  p : Blk wr pb PC 31
  bel : Below w.heap.size w wr
  ord : w.heap.size ≤ sb ∧ sb < rb ∧ rb < ab ∧ ab < ob ∧ ob < nb ∧ nb < pb
section
variable {L : List UInt8} {w wr w' : World} {sb rb ab ob nb pb : Nat} {st st' : Option Nat} {PC : Array Value}
theorem DB.but (h : DB L w wr sb rb ab ob nb pb st PC) (hb : But wr w' ob ab) (hx : ∃ (a : Nat) (ok : Bool), Blk w' ab #[.int .i64 (a : Int)] 3 ∧ Blk w' ob #[.bool ok] 4 ∧ DSt L st' a ok) : DB L w w' sb rb ab ob nb pb st' PC := by
  obtain ⟨o1, o2, o3, o4, o5, o6⟩ := h.ord
  exact ⟨hx, h.s.but hb (by omega) (by omega), h.r.but hb (by omega) (by omega), h.n.but hb (by omega) (by omega), h.p.but hb (by omega) (by omega), hb.bel h.bel h.bel.size (by omega) (by omega), h.ord⟩
theorem DB.step (h : DB L w wr sb rb ab ob nb pb st PC) (hb : Below wr.heap.size wr w') : DB L w w' sb rb ab ob nb pb st PC := by
  obtain ⟨a, ok, h1, h2, h3⟩ := h.ex
  exact h.but (But.below hb) ⟨a, ok, h1.step hb, h2.step hb, h3⟩
theorem DB.next (h : DB L w wr sb rb ab ob nb pb st PC) (hL : L.length ≤ 9223372036854775807) :
    Calls Try.prog 26 #[.pointer (some ⟨ob, 0, none⟩), .pointer (some ⟨sb, 0, none⟩), .pointer (some ⟨ab, 0, none⟩)] wr fun e w' => e = .returned (.int .i64 (nx L st).1) ∧ DB L w w' sb rb ab ob nb pb (nx L st).2 PC ∧ But wr w' ob ab := by
  obtain ⟨a, ok, h1, h2, h3⟩ := h.ex
  refine (dnext_any L hL st a ok ob sb ab wr h2 h.s h1 h3 (by have := h.ord; omega)).mono ?_
  rintro e w' ⟨a', ok', rfl, ho', ha', hs', hb⟩
  exact ⟨rfl, h.but hb ⟨a', ok', ha', ho', hs'⟩, hb⟩
theorem DB.many (h : DB L w wr sb rb ab ob nb pb st PC) (hL : L.length ≤ 9223372036854775807) :
    Calls Try.prog 28 #[.pointer (some ⟨nb, 0, none⟩), .pointer (some ⟨ob, 0, none⟩)] wr fun e w' => e = .returned (.int .i64 ((mn L st).1 : Int)) ∧ DB L w w' sb rb ab ob nb pb (mn L st).2 PC ∧ But wr w' ob ab := by
  obtain ⟨a, ok, h1, h2, h3⟩ := h.ex
  refine (dmany_any L hL st a ok ob sb ab nb wr h.n h2 h.s h1 h3 (by have := h.ord; omega)).mono ?_
  rintro e w' ⟨a', ok', rfl, ho', ha', hs', hb⟩
  exact ⟨rfl, h.but hb ⟨a', ok', ha', ho', hs'⟩, hb⟩
/-- A cell of the packet is stored. -/
theorem DB.put (h : DB L w wr sb rb ab ob nb pb st PC) (i : Nat) (v : Value) : DB L w (wr.setCell ⟨pb, i, none⟩ v) sb rb ab ob nb pb st (PC.setIfInBounds i v) := by
  obtain ⟨o1, o2, o3, o4, o5, o6⟩ := h.ord
  obtain ⟨a, ok, h1, h2, h3⟩ := h.ex
  exact ⟨⟨a, ok, h1.other (by simp; omega) _, h2.other (by simp; omega) _, h3⟩, h.s.other (by simp; omega) _, h.r.other (by simp; omega) _, h.n.other (by simp; omega) _, h.p.set i v, Below.setCell h.bel (by simp; omega) _, h.ord⟩
/-- What lies in other blocks may change. -/
theorem DB.grown (h : DB L w wr sb rb ab ob nb pb st PC) {r : Option Nat} (hg : wr.grownBy w' r) (hr : ∀ g, r = some g → pb < g) : DB L w w' sb rb ab ob nb pb st PC := by
  obtain ⟨o1, o2, o3, o4, o5, o6⟩ := h.ord
  obtain ⟨a, ok, h1, h2, h3⟩ := h.ex
  have hn : ∀ b, b ≤ pb → some b ≠ r := fun b hb e => by have := hr b e.symm; omega
  exact ⟨⟨a, ok, h1.grown hg (hn _ (by omega)), h2.grown hg (hn _ (by omega)), h3⟩, h.s.grown hg (hn _ (by omega)), h.r.grown hg (hn _ (by omega)), h.n.grown hg (hn _ (by omega)), h.p.grown hg (hn _ (by omega)), h.bel.grown hg h.bel.size (fun g e => by have := hr g e; omega), h.ord⟩
theorem DB.cells {pre x post : Array Value} (h : DB L w wr sb rb ab ob nb pb st (pre ++ x ++ post)) : (∀ j, j < x.size → wr.cell? ⟨pb, pre.size + j, none⟩ = x[j]?) ∧ ∀ j, wr.frozen? ⟨pb, j, none⟩ = false :=
  ⟨fun j hj => by rw [h.p.cells.1, win_get _ _ _ _ hj], h.p.cells.2⟩
theorem DB.putw {pre x post : Array Value} (h : DB L w wr sb rb ab ob nb pb st (pre ++ x ++ post)) (j : Nat) (hj : j < x.size) (v : Value) : DB L w (wr.setCell ⟨pb, pre.size + j, none⟩ v) sb rb ab ob nb pb st (pre ++ x.setIfInBounds j v ++ post) := by
  have := h.put (pre.size + j) v
  rwa [win_set _ _ _ _ hj] at this
end
/-- What lay above the boxes stands. -/
structure Keep (lo : Nat) (w w' : World) : Prop where
  size : w.heap.size ≤ w'.heap.size
  block : ∀ b, lo ≤ b → b < w.heap.size → w'.heap[b]? = w.heap[b]?
theorem Keep.refl (lo : Nat) (w : World) : Keep lo w w := ⟨Nat.le_refl _, fun _ _ _ => rfl⟩
theorem Keep.but {lo : Nat} {w w1 w2 : World} {p q : Nat} (h : Keep lo w w1) (hb : But w1 w2 p q) (hp : p < lo) (hq : q < lo) : Keep lo w w2 :=
  ⟨Nat.le_trans h.size hb.size, fun b h1 h2 => (hb.block b (Nat.lt_of_lt_of_le h2 h.size) (by omega) (by omega)).trans (h.block b h1 h2)⟩
theorem Keep.below {lo : Nat} {w w1 w2 : World} (h : Keep lo w w1) (hb : Below w1.heap.size w1 w2) : Keep lo w w2 :=
  ⟨Nat.le_trans h.size hb.size, fun b h1 h2 => (hb.block b (Nat.lt_of_lt_of_le h2 h.size)).trans (h.block b h1 h2)⟩
theorem Keep.set {lo : Nat} {w w1 : World} (h : Keep lo w w1) (a : Addr) (v : Value) (ha : a.block < lo ∨ w.heap.size ≤ a.block) : Keep lo w (w1.setCell a v) :=
  ⟨by rw [World.size_setCell]; exact h.size, fun b h1 h2 => by
    rw [← h.block b h1 h2]
    simp only [World.setCell, Array.getElem?_modify]
    rw [if_neg (fun e => by rcases ha with ha | ha <;> omega)]⟩
theorem Keep.grown {lo : Nat} {w w1 w2 : World} {r : Option Nat} (h : Keep lo w w1) (hg : w1.grownBy w2 r) (hr : ∀ g, r = some g → w.heap.size ≤ g) : Keep lo w w2 :=
  ⟨Nat.le_trans h.size hg.size, fun b h1 h2 => (hg.block b (Nat.lt_of_lt_of_le h2 h.size) (fun e => by have := hr b e.symm; omega)).trans (h.block b h1 h2)⟩
theorem own_keep {lo B n s : Nat} {w w' : World} {T : TypeId} {v : Value} {xs : List Value} (h : w.ownsRow B T s v n xs) (hk : Keep lo w w') (hB : lo ≤ B) : w'.ownsRow B T s v n xs := by
  obtain ⟨h1, h2⟩ := h
  refine ⟨h1, ?_⟩
  rcases h2 with h2 | ⟨b, cap, cur, e, hbb, hgt, h3⟩
  · exact .inl h2
  · refine .inr ⟨b, cap, cur, e, hbb, ?_, h3⟩
    have hlt : b < w.heap.size := by
      rcases Nat.lt_or_ge b w.heap.size with q | q
      · exact q
      · rw [Array.getElem?_eq_none q] at hgt; cases hgt
    rw [hk.block b (by omega) hlt]
    exact hgt
/-- A cell under way. -/
structure RC (L : List UInt8) (w wo wr : World) (sb rb ab ob nb pb : Nat) (st : Option Nat) (PC : Array Value) (vd : Value) (nd : Nat) (dl : List Value) (vc : Value) (nc : Nat) (cl : List Value) (cb : Nat) (cs : Array Value) : Prop where
  db : DB L w wr sb rb ab ob nb pb st PC
  od : wr.ownsRow wo.heap.size 51 2 vd nd dl
  oc : wr.ownsRow wo.heap.size 53 5 vc nc cl
  kp : Keep (pb + 1) wo wr
  c : Blk wr cb cs 53
  lo : pb < wo.heap.size ∧ wo.heap.size ≤ cb
  nd : ∀ g, vd.ownBlock = some g → some g ≠ some cb
  nc : ∀ g, vc.ownBlock = some g → some g ≠ some cb
section
variable {L : List UInt8} {w wo wr w' : World} {sb rb ab ob nb pb : Nat} {st st' : Option Nat} {PC : Array Value} {vd : Value} {nd : Nat} {dl : List Value} {vc : Value} {nc : Nat} {cl : List Value} {cb : Nat} {cs : Array Value}
theorem RC.drew (h : RC L w wo wr sb rb ab ob nb pb st PC vd nd dl vc nc cl cb cs) : RC L w wo wr.drew sb rb ab ob nb pb st PC vd nd dl vc nc cl cb cs :=
  ⟨h.db.step (Below.refl _ _).drew, h.od, h.oc, h.kp.below (Below.refl _ _).drew, h.c, h.lo, h.nd, h.nc⟩
theorem RC.next (h : RC L w wo wr sb rb ab ob nb pb st PC vd nd dl vc nc cl cb cs) (hL : L.length ≤ 9223372036854775807) :
    Calls Try.prog 26 #[.pointer (some ⟨ob, 0, none⟩), .pointer (some ⟨sb, 0, none⟩), .pointer (some ⟨ab, 0, none⟩)] wr fun e w' => e = .returned (.int .i64 (nx L st).1) ∧ RC L w wo w' sb rb ab ob nb pb (nx L st).2 PC vd nd dl vc nc cl cb cs := by
  obtain ⟨o1, o2, o3, o4, o5, o6⟩ := h.db.ord
  obtain ⟨l1, l2⟩ := h.lo
  refine (h.db.next hL).mono ?_
  rintro e w' ⟨rfl, hd, hb⟩
  exact ⟨rfl, hd, own_but h.od hb (by omega) (by omega), own_but h.oc hb (by omega) (by omega), h.kp.but hb (by omega) (by omega), h.c.but hb (by omega) (by omega), h.lo, h.nd, h.nc⟩
theorem RC.put (h : RC L w wo wr sb rb ab ob nb pb st PC vd nd dl vc nc cl cb cs) (t : Nat) (v : Value) : RC L w wo (wr.setCell ⟨cb, t, none⟩ v) sb rb ab ob nb pb st PC vd nd dl vc nc cl cb (cs.setIfInBounds t v) := by
  have hg : wr.grownBy (wr.setCell ⟨cb, t, none⟩ v) (some cb) := by
    refine ⟨rfl, rfl, rfl, by simp [World.setCell], fun k hk hne => ?_⟩
    simp only [World.setCell, Array.getElem?_modify]
    rw [if_neg (fun e => hne (by rw [e]))]
  exact ⟨h.db.grown hg (fun g e => by injection e with e; have := h.lo; omega), own_keptW h.od hg h.nd, own_keptW h.oc hg h.nc, h.kp.grown hg (fun g e => by injection e with e; have := h.lo; omega), h.c.set t v, h.lo, h.nd, h.nc⟩
end
/-- The numbers of a clock, one by one. -/
def ns (L : List UInt8) (st : Option Nat) : Nat → Option Nat
  | 0 => st
  | k + 1 => (nx L (ns L st k)).2
def nv (L : List UInt8) (st : Option Nat) (k : Nat) : Int := (nx L (ns L st k)).1
theorem rdClk_ns (L : List UInt8) (st : Option Nat) : rdClk L st = ((nv L st 0, nv L st 1, nv L st 2, nv L st 3), ns L st 4) := rfl
def ckc (L : List UInt8) (st : Option Nat) (k j : Nat) : Int := if j < k then nv L st j else 0
abbrev ck6 (L : List UInt8) (st : Option Nat) (k : Nat) : Array Value := #[.int .i64 (ckc L st k 0), .int .i64 (ckc L st k 1), .int .i64 (ckc L st k 2), .int .i64 (ckc L st k 3), .slice none 0 0, .slice none 0 0]
theorem ck6_set (L : List UInt8) (st : Option Nat) (k : Nat) (hk : k < 4) : (ck6 L st k).setIfInBounds k (.int .i64 (nv L st k)) = ck6 L st (k + 1) := by
  match k, hk with
  | 0, _ => simp [ck6, ckc]
  | 1, _ => simp [ck6, ckc]
  | 2, _ => simp [ck6, ckc]
  | 3, _ => simp [ck6, ckc]
end Go.Proofs.Ytnnabfjlmenmgaa
/- How far a packet reaches. No program in sight. -/
namespace Go.Proofs.Ytnnabfjlmenmgaa
set_option linter.unusedVariables false
set_option linter.unusedSimpArgs false

theorem rd_far {f : Nat} {first : Bool} {l : List UInt8} {u k : Nat} (h : rd f first l = some (u, k)) : k ≤ f := by
  induction f generalizing first l u k with
  | zero => simp [rd] at h
  | succ f ih =>
    cases l with
    | nil => simp [rd] at h
    | cons b l =>
      rw [rd] at h
      split at h
      · cases e : rd f false l with
        | none => rw [e] at h; simp at h
        | some p =>
          obtain ⟨u', k'⟩ := p
          rw [e] at h
          simp at h
          have := ih e
          omega
      · split at h
        · simp at h
        · simp at h; omega
theorem readN_far {l : List UInt8} {n : Int} {k : Nat} (h : readN l = some (n, k)) : k ≤ 9 := by
  unfold readN at h
  cases e : rd 9 true l with
  | none => rw [e] at h; simp at h
  | some p =>
    obtain ⟨u', k'⟩ := p
    rw [e] at h
    simp at h
    have := rd_far e
    omega
/-- From one state to another there are so many bytes at most. -/
def Far (s t : Option Nat) (N : Nat) : Prop := ∀ b, t = some b → ∃ a, s = some a ∧ b ≤ a + N
theorem Far.refl (s : Option Nat) : Far s s 0 := fun b h => ⟨b, h, by omega⟩
theorem Far.trans {s t u : Option Nat} {N M K : Nat} (h1 : Far s t N) (h2 : Far t u M) (hK : N + M ≤ K) : Far s u K := fun b h => by
  obtain ⟨a, e, l⟩ := h2 b h
  obtain ⟨c, e', l'⟩ := h1 a e
  exact ⟨c, e', by omega⟩
theorem nx_far (L : List UInt8) (s : Option Nat) : Far s (nx L s).2 9 := fun b h => by
  obtain ⟨a, n, k, rfl, e, rfl, -, -⟩ := nx_some h
  exact ⟨a, rfl, by have := readN_far e; omega⟩
theorem mn_far (L : List UInt8) (s : Option Nat) : Far s (mn L s).2 9 := fun b h => by
  unfold mn at h
  split at h
  · simp at h
  · exact nx_far L s b h
theorem rdDots_far (L : List UInt8) (s : Option Nat) : ∀ k, Far s (rdDots L s k).2 (18 * k)
  | 0 => Far.refl s
  | k + 1 => (((rdDots_far L s k).trans (nx_far L _) (Nat.le_refl _)).trans (nx_far L _) (by omega))
theorem rdCel_far (L : List UInt8) (s : Option Nat) : Far s (rdCel L s).2 45 :=
  (((((nx_far L s).trans (nx_far L _) (Nat.le_refl _)).trans (nx_far L _) (Nat.le_refl _)).trans (nx_far L _) (Nat.le_refl _)).trans (nx_far L _) (by omega))
theorem rdCels_far (L : List UInt8) (s : Option Nat) : ∀ k, Far s (rdCels L s k).2 (45 * k)
  | 0 => Far.refl s
  | k + 1 => (rdCels_far L s k).trans (rdCel_far L _) (by omega)
theorem rdClk_far (L : List UInt8) (s : Option Nat) : Far s (rdClk L s).2 36 :=
  ((((nx_far L s).trans (nx_far L _) (Nat.le_refl _)).trans (nx_far L _) (Nat.le_refl _)).trans (nx_far L _) (by omega))
theorem mn_400 (L : List UInt8) (s : Option Nat) : (mn L s).1 ≤ 400 := by
  unfold mn
  split
  · simp
  · simp only; omega
theorem rdTab_far (L : List UInt8) (s : Option Nat) : Far s (rdTab L s).2 25254 :=
  ((((rdClk_far L s).trans (mn_far L _) (Nat.le_refl _)).trans (rdDots_far L _ _) (Nat.le_refl _)).trans (mn_far L _) (Nat.le_refl _)).trans (rdCels_far L _ _) (by
    have h1 := mn_400 L (rdClk L s).2
    have h2 := mn_400 L (rdDots L (mn L (rdClk L s).2).2 (mn L (rdClk L s).2).1).2
    omega)
theorem rdPac_far {L : List UInt8} {x : Tab × Tab} {a : Nat} (h : rdPac L = (x, some a)) : a ≤ 50508 := by
  have h1 : (rdTab L (rdTab L (some 0)).2).2 = some a := congrArg Prod.snd h
  obtain ⟨b, e, l⟩ := ((rdTab_far L (some 0)).trans (rdTab_far L _) (Nat.le_refl _)) a h1
  injection e with e
  omega
end Go.Proofs.Ytnnabfjlmenmgaa
