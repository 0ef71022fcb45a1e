/- Wd -/
import Derived.Test.YtnnabfjlmenmgaaCk10
/- wire.Decode. -/
namespace Go.Proofs.Ytnnabfjlmenmgaa
set_option linter.unusedVariables false
set_option linter.unusedSimpArgs false
open Go.ChangeShapes Go.WideShapes Go.ChangeAt Go.RowKit

/-- What Decode tells. -/
def DPost (L : List UInt8) (w : World) (e : Ending) (w' : World) : Prop :=
  ∃ (x y : TR) (n c : Int), e = .returned (.tuple #[.agg (pboxT x y), .int .i64 n, .int .i64 c]) ∧ x.ok w' ∧ y.ok w' ∧ Below w.heap.size w w' ∧
    ((∃ k, decOk L = some k ∧ n = k ∧ c = 0 ∧ (x.t, y.t) = (rdPac L).1) ∨ (decOk L = none ∧ n = 0 ∧ c = 5 ∧ x.t = noTab ∧ y.t = noTab))
theorem decOk_none {L : List UInt8} {x y : Tab} (h : rdPac L = ((x, y), none)) : decOk L = none := by
  have h2 : (rdPac L).2 = none := by rw [h]
  unfold decOk
  rw [h2]
theorem decOk_some {L : List UInt8} {a : Nat} {x y : Tab} (h : rdPac L = ((x, y), some a)) : decOk L = if a + 4 ≤ L.length ∧ (L.drop a).take 4 = sum4 (sumB (L.take a)) ∧ tabI x = 0 ∧ tabI y = 0 then some (a + 4) else none := by
  have h2 : (rdPac L).2 = some a := by rw [h]
  unfold decOk
  rw [h2]
  simp only [h]
/-- Four bytes, the lowest first. -/
def le4 (b0 b1 b2 b3 : UInt8) : Nat := ((b3.toNat * 256 + b2.toNat) * 256 + b1.toNat) * 256 + b0.toNat
theorem le4_sum (b0 b1 b2 b3 : UInt8) (M : Nat) (hM : M < 4294967296) : le4 b0 b1 b2 b3 = M ↔ [b0, b1, b2, b3] = sum4 M := by
  have h0 := b8_lt b0
  have h1 := b8_lt b1
  have h2 := b8_lt b2
  have h3 := b8_lt b3
  unfold le4 sum4
  constructor
  · intro h
    have e0 : M % 256 = b0.toNat := by omega
    have e1 : M / 256 % 256 = b1.toNat := by omega
    have e2 : M / 65536 % 256 = b2.toNat := by omega
    have e3 : M / 16777216 % 256 = b3.toNat := by omega
    rw [e0, e1, e2, e3, b8_to, b8_to, b8_to, b8_to]
  · intro h
    simp only [List.cons.injEq, and_true] at h
    obtain ⟨e0, e1, e2, e3⟩ := h
    have f0 := congrArg UInt8.toNat e0
    have f1 := congrArg UInt8.toNat e1
    have f2 := congrArg UInt8.toNat e2
    have f3 := congrArg UInt8.toNat e3
    rw [b8_of _ (Nat.mod_lt _ (by omega))] at f0 f1 f2 f3
    omega
theorem or_byte (x : Nat) (b : UInt8) (hx : x < 16777216) : bits .or .u32 ((x : Int) * 256) (b.toNat : Int) = ((x * 256 + b.toNat : Nat) : Int) := by
  have hb := b8_lt b
  have e : (x * 256) ||| b.toNat = x * 256 + b.toNat := by
    have h2 := Nat.shiftLeft_add_eq_or_of_lt (a := x) (b := b.toNat) (i := 8) (by omega)
    rw [Nat.shiftLeft_eq] at h2
    exact h2.symm
  have hx2 : (x * 256) ||| b.toNat < 2 ^ 32 := Nat.or_lt_two_pow (by omega) (by omega)
  have h1 : (BitVec.ofInt 32 (((x * 256 : Nat)) : Int)).toNat = x * 256 := by
    rw [BitVec.ofInt_natCast, BitVec.toNat_ofNat]; exact Nat.mod_eq_of_lt (by omega)
  have h2 : (BitVec.ofInt 32 (b.toNat : Int)).toNat = b.toNat := by
    rw [BitVec.ofInt_natCast, BitVec.toNat_ofNat]; exact Nat.mod_eq_of_lt (by omega)
  rw [show ((x : Int) * 256) = ((x * 256 : Nat) : Int) by omega]
  show IntKind.u32.wrap ((BitVec.ofInt 32 ((x * 256 : Nat) : Int) ||| BitVec.ofInt 32 (b.toNat : Int)).toNat : Int) = _
  rw [BitVec.toNat_or, h1, h2, wrapU32, e]
  omega
theorem bstr_take (L : List UInt8) (a : Nat) (h : a ≤ L.length) : (bstr L).extract 0 a = bstr (L.take a) := by
  apply ByteArray.ext
  rw [ByteArray.data_extract]
  simp
theorem drop_four (L : List UInt8) (a : Nat) (h : a + 4 ≤ L.length) : (L.drop a).take 4 = [L[a]'(by omega), L[a + 1]'(by omega), L[a + 2]'(by omega), L[a + 3]'(by omega)] := by
  apply List.ext_getElem
  · simp; omega
  · intro i h1 h2
    simp only [List.length_cons, List.length_nil] at h2
    simp only [List.getElem_take, List.getElem_drop]
    rcases (by omega : i = 0 ∨ i = 1 ∨ i = 2 ∨ i = 3) with rfl | rfl | rfl | rfl <;> rfl
theorem results_cell3 {fn : Func} {p u v : Tmp} (h : fn.results = #[.cell p 31, .tmp u, .tmp v]) (tmps : Array Value) (w : World) (g : Nat) (t : TypeId) (cs : Array Value) (fr : Nat × Nat)
    (hp : tmps.getD p undef = .pointer (some ⟨g, 0, none⟩)) (hg : w.heap[g]? = some (.cells cs t fr)) (hi : (Try.prog.info? 31).map (·.size) = some cs.size) :
    (results fn tmps).run Try.prog w = .ok (.tuple #[.agg cs, tmps.getD u undef, tmps.getD v undef]) w := by
  have hp' : tmps[p]?.getD undef = .pointer (some ⟨g, 0, none⟩) := by simpa using hp
  have hr := run_loadVar_row (P := Try.prog) w g t 31 cs fr _ hg Try.underlying31 rfl hi
  simp [results, h, hp', asAddr, hr]
theorem own_len {w : World} {B n c s : Nat} {T : TypeId} {A : Option Addr} {xs : List Value} (h : w.ownsRow B T s (.slice A n c) n xs) : n ≤ 9223372036854775807 := by
  rcases h.2 with ⟨e, h0⟩ | ⟨g, cap, cur, e, hb, hg, hnc, hcm, -⟩
  · omega
  · simp only [maxLen] at hcm
    omega
theorem ok_own (z : TR) {w : World} {B : Nat} (h1 : w.ownsRow B 51 2 (.slice z.A z.t.c.cloud.length z.k) z.t.c.cloud.length (dcells z.t.c.cloud)) (h2 : w.ownsRow B 53 5 (.slice z.B z.t.cells.length z.m) z.t.cells.length (tcells z.t.cells)) : z.ok w :=
  ⟨Row.of_ownS h1, own_len h1, Row.of_ownS h2, own_len h2⟩
abbrev z12 : Array Value := #[.int .i64 0, .int .i64 0, .int .i64 0, .int .i64 0, .slice none 0 0, .slice none 0 0, .int .i64 0, .int .i64 0, .int .i64 0, .int .i64 0, .slice none 0 0, .slice none 0 0]
def nTR : TR := ⟨noTab, none, 0, none, 0⟩
theorem nTR_ok (w : World) : nTR.ok w := ⟨Row.nil, by simp [nTR, noTab], Row.nil, by simp [nTR, noTab]⟩
/-- Six cells of a block. -/
abbrev put6 (w : World) (b o : Nat) (v0 v1 v2 v3 v4 v5 : Value) : World :=
  (((((w.setCell ⟨b, o, none⟩ v0).setCell ⟨b, o + 1, none⟩ v1).setCell ⟨b, o + 2, none⟩ v2).setCell ⟨b, o + 3, none⟩ v3).setCell ⟨b, o + 4, none⟩ v4).setCell ⟨b, o + 5, none⟩ v5
theorem put6_own {w : World} {B n s b o : Nat} {T : TypeId} {v : Value} {xs : List Value} {v0 v1 v2 v3 v4 v5 : Value} (h : w.ownsRow B T s v n xs) (hb : b < B) : (put6 w b o v0 v1 v2 v3 v4 v5).ownsRow B T s v n xs :=
  own_setS (own_setS (own_setS (own_setS (own_setS (own_setS h hb _ _) hb _ _) hb _ _) hb _ _) hb _ _) hb _ _
theorem put6_other {w : World} {b b' o : Nat} {cs : Array Value} {T : TypeId} {v0 v1 v2 v3 v4 v5 : Value} (h : Blk w b cs T) (hne : b ≠ b') : Blk (put6 w b' o v0 v1 v2 v3 v4 v5) b cs T :=
  (((((h.other hne _).other hne _).other hne _).other hne _).other hne _).other hne _
theorem put6_same {w : World} {b o : Nat} {cs : Array Value} {T : TypeId} {v0 v1 v2 v3 v4 v5 : Value} (h : Blk w b cs T) : Blk (put6 w b o v0 v1 v2 v3 v4 v5) b ((((((cs.setIfInBounds o v0).setIfInBounds (o + 1) v1).setIfInBounds (o + 2) v2).setIfInBounds (o + 3) v3).setIfInBounds (o + 4) v4).setIfInBounds (o + 5) v5) T :=
  (((((h.set o _).set (o + 1) _).set (o + 2) _).set (o + 3) _).set (o + 4) _).set (o + 5) _
theorem put6_lo {w : World} {b : Nat} {x0 x1 x2 x3 x4 x5 x6 x7 x8 x9 x10 x11 : Value} {T : TypeId} {v0 v1 v2 v3 v4 v5 : Value} (h : Blk w b #[x0, x1, x2, x3, x4, x5, x6, x7, x8, x9, x10, x11] T) : Blk (put6 w b 0 v0 v1 v2 v3 v4 v5) b #[v0, v1, v2, v3, v4, v5, x6, x7, x8, x9, x10, x11] T :=
  (put6_same h).eq (by simp)
theorem put6_hi {w : World} {b : Nat} {x0 x1 x2 x3 x4 x5 x6 x7 x8 x9 x10 x11 : Value} {T : TypeId} {v0 v1 v2 v3 v4 v5 : Value} (h : Blk w b #[x0, x1, x2, x3, x4, x5, x6, x7, x8, x9, x10, x11] T) : Blk (put6 w b 6 v0 v1 v2 v3 v4 v5) b #[x0, x1, x2, x3, x4, x5, v0, v1, v2, v3, v4, v5] T :=
  (put6_same h).eq (by simp)
theorem put6_below {w w1 : World} {b o : Nat} {v0 v1 v2 v3 v4 v5 : Value} (h : Below w.heap.size w w1) (hb : w.heap.size ≤ b) : Below w.heap.size w (put6 w1 b o v0 v1 v2 v3 v4 v5) :=
  (((((h.setCell hb _).setCell hb _).setCell hb _).setCell hb _).setCell hb _).setCell hb _

theorem dpost_bad {L : List UInt8} {w w' : World} (hd : decOk L = none) (hb : Below w.heap.size w w') : DPost L w (.returned (.tuple #[.agg z12, .int .i64 0, .int .i64 5])) w' :=
  ⟨nTR, nTR, 0, 5, rfl, nTR_ok _, nTR_ok _, hb, .inr ⟨hd, rfl, rfl, rfl, rfl⟩⟩
abbrev putZ (w : World) (b : Nat) : World := put6 (put6 w b 0 (.int .i64 0) (.int .i64 0) (.int .i64 0) (.int .i64 0) (.slice none 0 0) (.slice none 0 0)) b 6 (.int .i64 0) (.int .i64 0) (.int .i64 0) (.int .i64 0) (.slice none 0 0) (.slice none 0 0)
theorem putZ_blk {w : World} {b : Nat} {T : TypeId} (h : Blk w b z12 T) : Blk (putZ w b) b z12 T := put6_hi (put6_lo h)
theorem putZ_below {w w1 : World} {b : Nat} (h : Below w.heap.size w w1) (hb : w.heap.size ≤ b) : Below w.heap.size w (putZ w1 b) := put6_below (put6_below h hb) hb

set_option maxHeartbeats 2000000 in
set_option maxRecDepth 100000 in
theorem decode_any (L : List UInt8) (hL : L.length ≤ 9223372036854775807) (w : World) : Calls Try.prog 13 #[.string (bstr L)] w (DPost L w) := by
  have hsz := bstr_size L
  obtain ⟨T1, s1, T2, s2, e1, e2, eP⟩ : ∃ T1 s1 T2 s2, rdTab L (some 0) = (T1, s1) ∧ rdTab L s1 = (T2, s2) ∧ rdPac L = ((T1, T2), s2) := ⟨_, _, _, _, rfl, rfl, rfl⟩
  have HT1 := hid (fun a wr rb w hb hs => by have := rtab_any L hL (some 0) a wr rb w hb hs; rwa [e1] at this)
  have HT2 := hid (fun a wr rb w hb hs => by have := rtab_any L hL s1 a wr rb w hb hs; rwa [e2] at this)
  have HPC := hid eP
  clear e1 e2 eP
  simp only at HT1 HT2
  obtain ⟨W, hW⟩ : ∃ W : World, W = ((w.alloc (.cells z12 31)).alloc (.cells #[.string (bstr L), .int .i64 0, .bool false] 64)).alloc (.cells z12 31) := ⟨_, rfl⟩
  have HB0 := hid (show Below w.heap.size w W by rw [hW]; exact alloc_below (alloc_below (alloc_below (Below.refl _ _) _) _) _)
  have HX2 := hid (show Blk W w.heap.size z12 31 by rw [hW]; exact ((Blk.new w _ _).alloc _).alloc _)
  have HR := hid (show Blk W (w.heap.size + 1) (rbox L 0 false) 64 by rw [hW]; exact (Blk.new' _ _ _ (by simp)).alloc _)
  have HX6 := hid (show Blk W (w.heap.size + 1 + 1) z12 31 by rw [hW]; exact Blk.new' _ _ _ (by simp))
  have hWs : w.heap.size + 3 ≤ W.heap.size := by rw [hW]; simp
  go_enter Try.func13, Try.ntmps13
  go_upto_region 3 with fail
  -- STOP-a
  rw [← hW]
  clear hW
  go_wp2_with fail
  refine wp_loop_rounds 3 ?_
  rw [rounds_succ]
  go_wp2_with fail
  -- STOP-b
  refine (HT1.out 0 false _ _ HR.out (RSt.right (Nat.zero_le _))).mono ?_
  rintro e w1 ⟨⟨t1, A1, k1, B1, m1⟩, a1, r1, hz1, rfl, hd1, hc1, hb1, hs1, hg1⟩
  simp only at hz1
  subst hz1
  simp only [TR.val, tval]
  have HX61 := hid (HX6.out.grown hg1 (by simp))
  have HX21 := hid (HX2.out.grown hg1 (by simp))
  have HB1 := hid (show Below w.heap.size w w1 from ⟨hg1.os.trans HB0.out.os, hg1.tape.trans HB0.out.tape, hg1.output.trans HB0.out.output, Nat.le_trans HB0.out.size hg1.size, fun k hk => (hg1.block k (Nat.lt_of_lt_of_le hk HB0.out.size) (by simp; omega)).trans (HB0.out.block k hk)⟩)
  have HR1 := hid hb1
  have HS1 := hid hs1
  have HD1 := hid hd1
  have HC1 := hid hc1
  have hs1z := hg1.size
  clear hd1 hc1 hb1 hs1 hg1 HT1 HX6 HX2 HR
  obtain ⟨cHX61, fHX61, sHX61, nHX61⟩ := HX61.out.all
  try simp only [cbox] at cHX61
  go_wp2_with fail
  -- STOP-c
  clear cHX61 fHX61 sHX61 nHX61
  obtain ⟨V1, hV1⟩ : ∃ q : World, q = ((((((w1.setCell ⟨w.heap.size + 1 + 1, 0, none⟩ (.int .i64 t1.c.c0)).setCell ⟨w.heap.size + 1 + 1, 1, none⟩ (.int .i64 t1.c.c1)).setCell ⟨w.heap.size + 1 + 1, 2, none⟩ (.int .i64 t1.c.c2)).setCell ⟨w.heap.size + 1 + 1, 3, none⟩ (.int .i64 t1.c.c3)).setCell ⟨w.heap.size + 1 + 1, 4, none⟩ (.slice A1 t1.c.cloud.length k1)).setCell ⟨w.heap.size + 1 + 1, 5, none⟩ (.slice B1 t1.cells.length m1)) := ⟨_, rfl⟩
  rw [← hV1]
  have hlt6 : w.heap.size + 1 + 1 < W.heap.size := by omega
  have HY6 := hid (show Blk V1 (w.heap.size + 1 + 1) #[.int .i64 t1.c.c0, .int .i64 t1.c.c1, .int .i64 t1.c.c2, .int .i64 t1.c.c3, .slice A1 t1.c.cloud.length k1, .slice B1 t1.cells.length m1, .int .i64 0, .int .i64 0, .int .i64 0, .int .i64 0, .slice none 0 0, .slice none 0 0] 31 by rw [hV1]; exact put6_lo HX61.out)
  have HY2 := hid (show Blk V1 w.heap.size z12 31 by rw [hV1]; exact put6_other (o := 0) HX21.out (by omega))
  have HYR := hid (show Blk V1 (w.heap.size + 1) (rbox L a1 r1) 64 by rw [hV1]; exact put6_other (o := 0) HR1.out (by omega))
  have HYD := hid (show V1.ownsRow W.heap.size 51 2 (.slice A1 t1.c.cloud.length k1) t1.c.cloud.length (dcells t1.c.cloud) by rw [hV1]; exact put6_own (o := 0) HD1.out hlt6)
  have HYC := hid (show V1.ownsRow W.heap.size 53 5 (.slice B1 t1.cells.length m1) t1.cells.length (tcells t1.cells) by rw [hV1]; exact put6_own (o := 0) HC1.out hlt6)
  have HYB := hid (show Below w.heap.size w V1 by rw [hV1]; exact put6_below (o := 0) HB1.out (by omega))
  have hv1z : W.heap.size ≤ V1.heap.size := by rw [hV1]; simp [World.setCell]; omega
  clear hV1 HX61 HX21 HR1 HD1 HC1 HB1
  rw [rounds_succ]
  go_wp2_with fail
  -- STOP-d
  refine (HT2.out _ _ _ _ HYR.out HS1.out).mono ?_
  rintro e w2 ⟨⟨t2, A2, k2, B2, m2⟩, a2, r2, hz2, rfl, hd2, hc2, hb2, hs2, hg2⟩
  simp only at hz2
  subst hz2
  simp only [TR.val, tval]
  have HX62 := hid (HY6.out.grown hg2 (by simp))
  have HX22 := hid (HY2.out.grown hg2 (by simp))
  have HB2 := hid (show Below w.heap.size w w2 from ⟨hg2.os.trans HYB.out.os, hg2.tape.trans HYB.out.tape, hg2.output.trans HYB.out.output, Nat.le_trans HYB.out.size hg2.size, fun k hk => (hg2.block k (Nat.lt_of_lt_of_le hk HYB.out.size) (by simp; omega)).trans (HYB.out.block k hk)⟩)
  have HR2 := hid hb2
  have HS2 := hid hs2
  have HD2 := hid hd2
  have HC2 := hid hc2
  have HD12 := hid (own_keptW HYD.out hg2 (fun g e => by have := (HYD.out.lt g e).1; simp; omega))
  have HC12 := hid (own_keptW HYC.out hg2 (fun g e => by have := (HYC.out.lt g e).1; simp; omega))
  have hs2z := hg2.size
  clear hd2 hc2 hb2 hs2 hg2 HT2 HY6 HY2 HYR HYD HYC HYB HS1
  obtain ⟨cHX62, fHX62, sHX62, nHX62⟩ := HX62.out.all
  try simp only [cbox] at cHX62
  go_wp2_with fail
  -- STOP-e
  clear cHX62 fHX62 sHX62 nHX62
  obtain ⟨V2, hV2⟩ : ∃ q : World, q = ((((((w2.setCell ⟨w.heap.size + 1 + 1, 6, none⟩ (.int .i64 t2.c.c0)).setCell ⟨w.heap.size + 1 + 1, 7, none⟩ (.int .i64 t2.c.c1)).setCell ⟨w.heap.size + 1 + 1, 8, none⟩ (.int .i64 t2.c.c2)).setCell ⟨w.heap.size + 1 + 1, 9, none⟩ (.int .i64 t2.c.c3)).setCell ⟨w.heap.size + 1 + 1, 10, none⟩ (.slice A2 t2.c.cloud.length k2)).setCell ⟨w.heap.size + 1 + 1, 11, none⟩ (.slice B2 t2.cells.length m2)) := ⟨_, rfl⟩
  rw [← hV2]
  have hlt7 : w.heap.size + 1 + 1 < V1.heap.size := by omega
  have HZ6 := hid (show Blk V2 (w.heap.size + 1 + 1) #[.int .i64 t1.c.c0, .int .i64 t1.c.c1, .int .i64 t1.c.c2, .int .i64 t1.c.c3, .slice A1 t1.c.cloud.length k1, .slice B1 t1.cells.length m1, .int .i64 t2.c.c0, .int .i64 t2.c.c1, .int .i64 t2.c.c2, .int .i64 t2.c.c3, .slice A2 t2.c.cloud.length k2, .slice B2 t2.cells.length m2] 31 by rw [hV2]; exact put6_hi HX62.out)
  have HZ2 := hid (show Blk V2 w.heap.size z12 31 by rw [hV2]; exact put6_other (o := 6) HX22.out (by omega))
  have HZR := hid (show Blk V2 (w.heap.size + 1) (rbox L a2 r2) 64 by rw [hV2]; exact put6_other (o := 6) HR2.out (by omega))
  have HOA := hid (show V2.ownsRow W.heap.size 51 2 (.slice A1 t1.c.cloud.length k1) t1.c.cloud.length (dcells t1.c.cloud) by rw [hV2]; exact put6_own (o := 6) HD12.out hlt6)
  have HOB := hid (show V2.ownsRow W.heap.size 53 5 (.slice B1 t1.cells.length m1) t1.cells.length (tcells t1.cells) by rw [hV2]; exact put6_own (o := 6) HC12.out hlt6)
  have HOC := hid (show V2.ownsRow W.heap.size 51 2 (.slice A2 t2.c.cloud.length k2) t2.c.cloud.length (dcells t2.c.cloud) by rw [hV2]; exact own_baseS (put6_own (o := 6) HD2.out hlt7) hv1z)
  have HOE := hid (show V2.ownsRow W.heap.size 53 5 (.slice B2 t2.cells.length m2) t2.cells.length (tcells t2.cells) by rw [hV2]; exact own_baseS (put6_own (o := 6) HC2.out hlt7) hv1z)
  have HOK1 := hid (ok_own ⟨t1, A1, k1, B1, m1⟩ HOA.out HOB.out)
  have HOK2 := hid (ok_own ⟨t2, A2, k2, B2, m2⟩ HOC.out HOE.out)
  have HZB := hid (show Below w.heap.size w V2 by rw [hV2]; exact put6_below (o := 6) HB2.out (by omega))
  have hv2z : W.heap.size ≤ V2.heap.size := by rw [hV2]; simp [World.setCell]; omega
  clear hV2 HX62 HX22 HR2 HD2 HC2 HB2 HD12 HC12
  rw [rounds_succ]
  obtain ⟨hal, hst⟩ := HS2.out
  rcases hst with ⟨hse, rfl⟩ | ⟨hse, rfl⟩
  rotate_left
  · have HDN := hid (decOk_none (by rw [HPC.out, hse]))
    clear hse
    obtain ⟨cHZR, fHZR, sHZR, nHZR⟩ := HZR.out.all
    try simp only [cbox] at cHZR
    obtain ⟨cHZ2, fHZ2, sHZ2, nHZ2⟩ := HZ2.out.all
    try simp only [cbox] at cHZ2
    go_wp2_with fail
    -- STOP-f
    refine bodyPost_ret (results_cell3 rfl _ _ w.heap.size _ z12 (0, 0) rfl (putZ_blk HZ2.out) (by kernel_rfl)) rfl ?_
    exact dpost_bad HDN.out (putZ_below HZB.out (Nat.le_refl _))
  · have HDS := hid (decOk_some (by rw [HPC.out, hse]))
    clear hse
    by_cases hlen : a2 + 4 ≤ L.length
    rotate_left
    · have HDN := hid (show decOk L = none by rw [HDS.out, if_neg (fun h => hlen h.1)])
      have g1' : ((L.length : Int) - (a2 : Int) < 4) = True := eq_true (by omega)
      obtain ⟨cHZR, fHZR, sHZR, nHZR⟩ := HZR.out.all
      try simp only [cbox] at cHZR
      obtain ⟨cHZ2, fHZ2, sHZ2, nHZ2⟩ := HZ2.out.all
      try simp only [cbox] at cHZ2
      go_wp2_with fail
      -- STOP-g
      refine bodyPost_ret (results_cell3 rfl _ _ w.heap.size _ z12 (0, 0) rfl (putZ_blk HZ2.out) (by kernel_rfl)) rfl ?_
      exact dpost_bad HDN.out (putZ_below HZB.out (Nat.le_refl _))
    · have g1' : ((L.length : Int) - (a2 : Int) < 4) = False := eq_false (by omega)
      obtain ⟨cHZR, fHZR, sHZR, nHZR⟩ := HZR.out.all
      try simp only [cbox] at cHZR
      go_wp2_with fail
      -- STOP-h
      refine wp_loop_rounds 5 ?_
      have hq0 : a2 < L.length := by omega
      have hq1 : a2 + 1 < L.length := by omega
      have hq2 : a2 + 2 < L.length := by omega
      have hq3 : a2 + 3 < L.length := by omega
      have HD4' := hid (drop_four L a2 hlen)
      have g0 := bstr_get L a2 hq0
      have f1 := bstr_get L (a2 + 1) hq1
      have f2 := bstr_get L (a2 + 2) hq2
      have f3 := bstr_get L (a2 + 3) hq3
      obtain ⟨b0, hb0⟩ : ∃ q, q = L[a2]'hq0 := ⟨_, rfl⟩
      obtain ⟨b1, hb1⟩ : ∃ q, q = L[a2 + 1]'hq1 := ⟨_, rfl⟩
      obtain ⟨b2, hb2⟩ : ∃ q, q = L[a2 + 2]'hq2 := ⟨_, rfl⟩
      obtain ⟨b3, hb3⟩ : ∃ q, q = L[a2 + 3]'hq3 := ⟨_, rfl⟩
      have HD4 := hid (show (L.drop a2).take 4 = [b0, b1, b2, b3] by rw [HD4'.out, hb0, hb1, hb2, hb3])
      rw [← hb0] at g0
      rw [← hb1] at f1
      rw [← hb2] at f2
      rw [← hb3] at f3
      have l0 := b8_lt b0
      have l1 := b8_lt b1
      have l2 := b8_lt b2
      have l3 := b8_lt b3
      clear hb0 hb1 hb2 hb3 HD4'
      obtain ⟨p1, i1, u1, q1, g1⟩ : ∃ p : Nat, (a2 : Int) + 1 = (p : Int) ∧ (p : Int) ≤ 9223372036854775807 ∧ ∃ h : p < L.length, (bstr L)[p]'h = b1 := ⟨a2 + 1, by omega, by omega, hq1, f1⟩
      obtain ⟨p2, i2, u2, q2, g2⟩ : ∃ p : Nat, (a2 : Int) + 2 = (p : Int) ∧ (p : Int) ≤ 9223372036854775807 ∧ ∃ h : p < L.length, (bstr L)[p]'h = b2 := ⟨a2 + 2, by omega, by omega, hq2, f2⟩
      obtain ⟨p3, i3, u3, q3, g3⟩ : ∃ p : Nat, (a2 : Int) + 3 = (p : Int) ∧ (p : Int) ≤ 9223372036854775807 ∧ ∃ h : p < L.length, (bstr L)[p]'h = b3 := ⟨a2 + 3, by omega, by omega, hq3, f3⟩
      have w1' : IntKind.i64.wrap (p1 : Int) = (p1 : Int) := IntWalk.i64_in _ (by omega)
      have w2' : IntKind.i64.wrap (p2 : Int) = (p2 : Int) := IntWalk.i64_in _ (by omega)
      have w3' : IntKind.i64.wrap (p3 : Int) = (p3 : Int) := IntWalk.i64_in _ (by omega)
      clear f1 f2 f3 hq1 hq2 hq3
      have hex := bstr_take L a2 hal
      have v3 : bits .or .u32 0 (b3.toNat : Int) = (b3.toNat : Int) := by
        have := or_byte 0 b3 (by omega)
        simpa using this
      have m3 : (b3.toNat : Int) * 256 % 4294967296 = (b3.toNat : Int) * 256 := by omega
      obtain ⟨c2, hc2, v2⟩ : ∃ c : Nat, c = b3.toNat * 256 + b2.toNat ∧ bits .or .u32 ((b3.toNat : Int) * 256) (b2.toNat : Int) = (c : Int) := ⟨_, rfl, or_byte _ _ (by omega)⟩
      have m2' : (c2 : Int) * 256 % 4294967296 = (c2 : Int) * 256 := by omega
      obtain ⟨c1, hc1, v1⟩ : ∃ c : Nat, c = c2 * 256 + b1.toNat ∧ bits .or .u32 ((c2 : Int) * 256) (b1.toNat : Int) = (c : Int) := ⟨_, rfl, or_byte _ _ (by omega)⟩
      have m1' : (c1 : Int) * 256 % 4294967296 = (c1 : Int) * 256 := by omega
      obtain ⟨c0, hc0, v0⟩ : ∃ c : Nat, c = c1 * 256 + b0.toNat ∧ bits .or .u32 ((c1 : Int) * 256) (b0.toNat : Int) = (c : Int) := ⟨_, rfl, or_byte _ _ (by omega)⟩
      have HLE := hid (show c0 = le4 b0 b1 b2 b3 by rw [hc0, hc1, hc2]; rfl)
      have hc0l : c0 < 4294967296 := by omega
      clear hc0 hc1 hc2
      have HSM := hid (sumS_any (L.take a2) V2 (by rw [List.length_take]; omega))
      have HSL := hid (sumB_lt (L.take a2))
      have HL4 := hid (le4_sum b0 b1 b2 b3 (sumB (L.take a2)) HSL.out)
      obtain ⟨M, hM⟩ : ∃ q, q = sumB (L.take a2) := ⟨_, rfl⟩
      rw [← hM] at HSM HSL HL4 HDS
      clear hM
      rw [rounds_succ]
      go_wp2_with fail
      -- STOP-i
      rw [rounds_succ]
      go_wp2_with fail
      rw [rounds_succ]
      go_wp2_with fail
      -- STOP-j
      rw [rounds_succ]
      go_wp2_with fail
      rw [rounds_succ]
      go_wp2_with fail
      -- STOP-k
      refine HSM.out.mono ?_
      rintro e w3 ⟨rfl, hw3⟩
      subst hw3
      clear HSM
      by_cases hNM : c0 = M
      rotate_left
      · have HDN := hid (show decOk L = none by rw [HDS.out, if_neg (fun h => hNM (by rw [HLE.out]; exact HL4.out.2 (HD4.out ▸ h.2.1)))])
        have g2' : ((c0 : Int) != (M : Int)) = true := by simp only [bne_iff_ne, ne_eq]; omega
        clear hNM
        obtain ⟨cHZR, fHZR, sHZR, nHZR⟩ := HZR.out.all
        try simp only [cbox] at cHZR
        obtain ⟨cHZ2, fHZ2, sHZ2, nHZ2⟩ := HZ2.out.all
        try simp only [cbox] at cHZ2
        go_wp2_with fail
        -- STOP-l
        refine bodyPost_ret (results_cell3 rfl _ _ w.heap.size _ z12 (0, 0) rfl (putZ_blk HZ2.out) (by kernel_rfl)) rfl ?_
        exact dpost_bad HDN.out (putZ_below HZB.out (Nat.le_refl _))
      · have g2' : ((c0 : Int) != (M : Int)) = false := by simp [hNM]
        have HS4 := hid (show (L.drop a2).take 4 = sum4 M by rw [HD4.out]; exact HL4.out.1 (by rw [← HLE.out]; exact hNM))
        clear hNM
        have HCK1 := hid (fun w1 (hb : Below w3.heap.size w3 w1) => tcheck_any t1 A1 k1 B1 m1 w1 (HOK1.out.step hb).1 HOK1.out.2.1 (HOK1.out.step hb).2.2.1 HOK1.out.2.2.2)
        have HCK2 := hid (fun w1 (hb : Below w3.heap.size w3 w1) => tcheck_any t2 A2 k2 B2 m2 w1 (HOK2.out.step hb).1 HOK2.out.2.1 (HOK2.out.step hb).2.2.1 HOK2.out.2.2.2)
        have hi0 := fun w => idx_first ⟨t1, A1, k1, B1, m1⟩ ⟨t2, A2, k2, B2, m2⟩ w
        have hi1 := fun w => idx_second ⟨t1, A1, k1, B1, m1⟩ ⟨t2, A2, k2, B2, m2⟩ w
        simp only [pboxT, pbox, TR.val, tval] at hi0 hi1
        obtain ⟨E1, hE1⟩ : ∃ q, q = tabI t1 := ⟨_, rfl⟩
        obtain ⟨E2, hE2⟩ : ∃ q, q = tabI t2 := ⟨_, rfl⟩
        rw [← hE1, ← hE2] at HDS
        rw [← hE1] at HCK1
        rw [← hE2] at HCK2
        clear hE1 hE2
        obtain ⟨cHZ6, fHZ6, sHZ6, nHZ6⟩ := HZ6.out.all
        try simp only [cbox] at cHZ6
        go_wp2_with fail
        -- STOP-m
        refine wp_loop_rounds 3 ?_
        rw [rounds_succ]
        go_wp2_with fail
        -- STOP-n
        have hba1 := alloc_below (Below.refl w3.heap.size w3) (.cells #[.int .i64 t1.c.c0, .int .i64 t1.c.c1, .int .i64 t1.c.c2, .int .i64 t1.c.c3, .slice A1 t1.c.cloud.length k1, .slice B1 t1.cells.length m1] 28)
        refine (HCK1.out _ hba1).mono ?_
        rintro e w4 ⟨rfl, hb4⟩
        have HB4 := hid (Below.step' hba1 hb4)
        clear hb4 hba1 HCK1
        by_cases hq1 : E1 = 0
        rotate_left
        · have HDN := hid (show decOk L = none by rw [HDS.out, if_neg (fun h => hq1 h.2.2.1)])
          have g3' : (E1 != 0) = true := by simpa using hq1
          have HY2 := hid (HZ2.out.step HB4.out)
          clear hq1 cHZ6 fHZ6 sHZ6 nHZ6
          obtain ⟨cHY2, fHY2, sHY2, nHY2⟩ := HY2.out.all
          try simp only [cbox] at cHY2
          go_wp2_with fail
          -- STOP-o
          refine bodyPost_ret (results_cell3 rfl _ _ w.heap.size _ z12 (0, 0) rfl (putZ_blk HY2.out) (by kernel_rfl)) rfl ?_
          exact dpost_bad HDN.out (putZ_below (Below.step' HZB.out HB4.out) (Nat.le_refl _))
        · subst hq1
          clear cHZ6 fHZ6 sHZ6 nHZ6
          go_wp2_with fail
          rw [rounds_succ]
          go_wp2_with fail
          -- STOP-p
          have hba2 := alloc_below (Below.refl w4.heap.size w4) (.cells #[.int .i64 t2.c.c0, .int .i64 t2.c.c1, .int .i64 t2.c.c2, .int .i64 t2.c.c3, .slice A2 t2.c.cloud.length k2, .slice B2 t2.cells.length m2] 28)
          refine (HCK2.out _ (Below.step' HB4.out hba2)).mono ?_
          rintro e w5 ⟨rfl, hb5⟩
          have HB5 := hid (Below.step' HB4.out (Below.step' hba2 hb5))
          clear hb5 hba2 HCK2
          by_cases hq2 : E2 = 0
          rotate_left
          · have HDN := hid (show decOk L = none by rw [HDS.out, if_neg (fun h => hq2 h.2.2.2)])
            have g3' : (E2 != 0) = true := by simpa using hq2
            have HY2 := hid (HZ2.out.step HB5.out)
            clear hq2
            obtain ⟨cHY2, fHY2, sHY2, nHY2⟩ := HY2.out.all
            try simp only [cbox] at cHY2
            go_wp2_with fail
            -- STOP-q
            refine bodyPost_ret (results_cell3 rfl _ _ w.heap.size _ z12 (0, 0) rfl (putZ_blk HY2.out) (by kernel_rfl)) rfl ?_
            exact dpost_bad HDN.out (putZ_below (Below.step' HZB.out HB5.out) (Nat.le_refl _))
          · subst hq2
            have HDN := hid (show decOk L = some (a2 + 4) by rw [HDS.out, if_pos ⟨hlen, HS4.out, by first | rfl | trivial, by first | rfl | trivial⟩])
            have HY2 := hid (HZ2.out.step HB5.out)
            have HY6 := hid (HZ6.out.step HB5.out)
            have HYR := hid (HZR.out.step HB5.out)
            go_wp2_with fail
            rw [rounds_succ]
            go_wp2_with fail
            -- STOP-r
            obtain ⟨cHY2, fHY2, sHY2, nHY2⟩ := HY2.out.all
            try simp only [cbox] at cHY2
            obtain ⟨cHY6, fHY6, sHY6, nHY6⟩ := HY6.out.all
            try simp only [cbox] at cHY6
            obtain ⟨cHYR, fHYR, sHYR, nHYR⟩ := HYR.out.all
            try simp only [cbox] at cHYR
            go_region
            -- STOP-s
            all_goals
              go_wp2_with fail
              -- STOP-t
              refine bodyPost_ret (results_cell3 rfl _ _ w.heap.size _ #[.int .i64 t1.c.c0, .int .i64 t1.c.c1, .int .i64 t1.c.c2, .int .i64 t1.c.c3, .slice A1 t1.c.cloud.length k1, .slice B1 t1.cells.length m1, .int .i64 t2.c.c0, .int .i64 t2.c.c1, .int .i64 t2.c.c2, .int .i64 t2.c.c3, .slice A2 t2.c.cloud.length k2, .slice B2 t2.cells.length m2] (0, 0) rfl (Blk.drew (put6_hi (put6_lo HY2.out))) (by kernel_rfl)) rfl ?_
              have hlt2 : w.heap.size < W.heap.size := by omega
              refine ⟨⟨t1, A1, k1, B1, m1⟩, ⟨t2, A2, k2, B2, m2⟩, (a2 : Int) + 4, 0, rfl, ?_, ?_, ?_, .inl ⟨a2 + 4, HDN.out, by omega, rfl, by rw [HPC.out]⟩⟩
              · exact ok_own ⟨t1, A1, k1, B1, m1⟩ (own_drew (put6_own (put6_own (own_laterS HOA.out HB5.out) hlt2) hlt2)) (own_drew (put6_own (put6_own (own_laterS HOB.out HB5.out) hlt2) hlt2))
              · exact ok_own ⟨t2, A2, k2, B2, m2⟩ (own_drew (put6_own (put6_own (own_laterS HOC.out HB5.out) hlt2) hlt2)) (own_drew (put6_own (put6_own (own_laterS HOE.out HB5.out) hlt2) hlt2))
              · exact Below.drew (put6_below (put6_below (Below.step' HZB.out HB5.out) (Nat.le_refl _)) (Nat.le_refl _))
end Go.Proofs.Ytnnabfjlmenmgaa
