/- Wt -/
import Derived.Test.YtnnabfjlmenmgaaCk09
import Derived.Deep.RegionLaw
/- wire's reader: table. -/
namespace Go.Proofs.Ytnnabfjlmenmgaa
set_option linter.unusedVariables false
set_option linter.unusedSimpArgs false
open Go.ChangeShapes Go.WideShapes Go.ChangeAt Go.RowKit

theorem elem_dotW : Elem Try.prog 23 51 2 16 := ⟨Try.underlying23, by
  obtain ⟨i, hi, hz, hs, hb⟩ := info_parts (P := Try.prog) (e := 51) (z := .agg #[.int .i64 0, .int .i64 0]) (size := 2) (bytes := 16) (by kernel_rfl)
  exact ⟨i, _, hi, hz, hs, hb, rfl⟩, by decide⟩
theorem elem_celW : Elem Try.prog 26 53 5 40 := ⟨Try.underlying26, by
  obtain ⟨i, hi, hz, hs, hb⟩ := info_parts (P := Try.prog) (e := 53) (z := .agg #[.int .i64 0, .int .i64 0, .int .i64 0, .int .i64 0, .int .i64 0]) (size := 5) (bytes := 40) (by kernel_rfl)
  exact ⟨i, _, hi, hz, hs, hb, rfl⟩, by decide⟩
theorem two_oneW (a b : Int) : ∀ u ∈ ([.int .i64 a, .int .i64 b] : List Value), u.oneCell' = true := by
  intro u hu
  simp only [List.mem_cons, List.not_mem_nil, or_false] at hu
  rcases hu with rfl | rfl <;> rfl
theorem blk_held {w : World} {b : Nat} {x0 x1 x2 x3 x4 x5 : Value} {T : TypeId} (h : Blk w b #[x0, x1, x2, x3, x4, x5] T) : w.cell? ⟨b, 4, none⟩ = some x4 ∧ w.frozen? ⟨b, 4, none⟩ = false := ⟨by rw [h.cells.1 4]; rfl, h.cells.2 4⟩
theorem five_oneW (a b c d e : Int) : ∀ u ∈ ([.int .i64 a, .int .i64 b, .int .i64 c, .int .i64 d, .int .i64 e] : List Value), u.oneCell' = true := by
  intro u hu
  simp only [List.mem_cons, List.not_mem_nil, or_false] at hu
  rcases hu with rfl | rfl | rfl | rfl | rfl <;> rfl
theorem blk_held5 {w : World} {b : Nat} {x0 x1 x2 x3 x4 x5 : Value} {T : TypeId} (h : Blk w b #[x0, x1, x2, x3, x4, x5] T) : w.cell? ⟨b, 5, none⟩ = some x5 ∧ w.frozen? ⟨b, 5, none⟩ = false := ⟨by rw [h.cells.1 5]; rfl, h.cells.2 5⟩
theorem blk_two {w : World} {b : Nat} {x0 x1 : Value} {T : TypeId} (h : Blk w b #[x0, x1] T) : w.cell? ⟨b, 0, none⟩ = some x0 ∧ w.cell? ⟨b, 1, none⟩ = some x1 := ⟨by rw [h.cells.1 0]; rfl, by rw [h.cells.1 1]; rfl⟩
theorem ne_dot_cel : 51 ≠ 53 := by decide
theorem grownR_drew {w w1 : World} {row : Option Nat} (h : w.grownBy w1 row) : w.grownBy w1.drew row := ⟨h.os, h.tape, h.output, h.size, h.block⟩
theorem own_drew {w : World} {B n s : Nat} {T : TypeId} {v : Value} {xs : List Value} (h : w.ownsRow B T s v n xs) : w.drew.ownsRow B T s v n xs := h
theorem own_gt {w : World} {B n s b : Nat} {T : TypeId} {v : Value} {xs : List Value} (h : w.ownsRow B T s v n xs) (hb : b < B) : some b ≠ v.ownBlock := fun e => Nat.lt_irrefl _ (Nat.lt_of_lt_of_le hb (h.lt b e.symm).1)
/-- A table of a call's own reading. -/
def TPost (L : List UInt8) (rb : Nat) (t : Tab) (st : Option Nat) (w : World) (e : Ending) (w' : World) : Prop :=
  ∃ (z : TR) (a : Nat) (wr : Bool), z.t = t ∧ e = .returned z.val ∧ w'.ownsRow w.heap.size 51 2 (.slice z.A t.c.cloud.length z.k) t.c.cloud.length (dcells t.c.cloud) ∧ w'.ownsRow w.heap.size 53 5 (.slice z.B t.cells.length z.m) t.cells.length (tcells t.cells) ∧
    Blk w' rb (rbox L a wr) 64 ∧ RSt L st a wr ∧ w.grownBy w' (some rb)
/-- The four numbers' states. -/
theorem rdTab_parts (L : List UInt8) (s : Option Nat) : ∃ (c0 c1 c2 c3 : Int) (s0 s1 s2 s3 s4 s5 : Option Nat) (m n : Nat), nx L s = (c0, s0) ∧ nx L s0 = (c1, s1) ∧ nx L s1 = (c2, s2) ∧ nx L s2 = (c3, s3) ∧ mn L s3 = (m, s4) ∧ mn L (rdDots L s4 m).2 = (n, s5) ∧ m ≤ 400 ∧ n ≤ 400 ∧
    rdTab L s = (⟨⟨c0, c1, c2, c3, (rdDots L s4 m).1⟩, (rdCels L s5 n).1⟩, (rdCels L s5 n).2) :=
  ⟨_, _, _, _, _, _, _, _, _, _, _, _, rfl, rfl, rfl, rfl, rfl, rfl, mn_le _ _, mn_le _ _, rfl⟩

set_option maxHeartbeats 16000000 in
set_option maxRecDepth 100000 in
theorem rtab_any (L : List UInt8) (hL : L.length ≤ 9223372036854775807) (st : Option Nat) (a : Nat) (wr : Bool) (rb : Nat) (w : World) (hb : Blk w rb (rbox L a wr) 64) (hs : RSt L st a wr) :
    Calls Try.prog 25 #[.pointer (some ⟨rb, 0, none⟩)] w (TPost L rb (rdTab L st).1 (rdTab L st).2 w) := by
  obtain ⟨c0, c1, c2, c3, s0, s1, s2, s3, s4, s5, m, n, e0, e1, e2, e3, e4, e5, hm4, hn4, eT⟩ := rdTab_parts L st
  have HC0 := hid (fun a wr w hb hs => by have := rnumber_any L hL st a wr rb w hb hs; rwa [e0] at this)
  have HC1 := hid (fun a wr w hb hs => by have := rnumber_any L hL s0 a wr rb w hb hs; rwa [e1] at this)
  have HC2 := hid (fun a wr w hb hs => by have := rnumber_any L hL s1 a wr rb w hb hs; rwa [e2] at this)
  have HC3 := hid (fun a wr w hb hs => by have := rnumber_any L hL s2 a wr rb w hb hs; rwa [e3] at this)
  have HC4 := hid (fun a wr w hb hs => by have := rmany_any L hL s3 a wr rb w hb hs; rwa [e4] at this)
  have HC5 := hid (fun a wr w hb hs => by have := rmany_any L hL (rdDots L s4 m).2 a wr rb w hb hs; rwa [e5] at this)
  rw [eT]
  clear e0 e1 e2 e3 e4 e5 eT
  simp only at HC0 HC1 HC2 HC3 HC4 HC5 ⊢
  have hrl := hb.lt
  obtain ⟨W, hW⟩ : ∃ W : World, W = (w.alloc (.cells #[.int .i64 0, .int .i64 0, .int .i64 0, .int .i64 0, .slice none 0 0, .slice none 0 0] 28)).alloc (.cells #[.int .i64 0, .int .i64 0, .int .i64 0, .int .i64 0, .slice none 0 0, .slice none 0 0] 28) := ⟨_, rfl⟩
  have HB0 := hid (show Below w.heap.size w W by rw [hW]; exact alloc_below (alloc_below (Below.refl _ _) _) _)
  have HGB := hid (show w.grownBy W (some rb) by rw [hW]; exact grownR_alloc (grownR_alloc (grownR_refl _ _) _) _)
  have HX2 := hid (show Blk W w.heap.size #[.int .i64 0, .int .i64 0, .int .i64 0, .int .i64 0, .slice none 0 0, .slice none 0 0] 28 by rw [hW]; exact (Blk.new w _ _).alloc _)
  have HX3 := hid (show Blk W (w.heap.size + 1) #[.int .i64 0, .int .i64 0, .int .i64 0, .int .i64 0, .slice none 0 0, .slice none 0 0] 28 by rw [hW]; exact Blk.new' _ _ _ (by simp))
  have HR := hid (hb.step HB0.out)
  have HS := hid hs
  have hWs : w.heap.size + 2 ≤ W.heap.size := by rw [hW]; simp
  clear hb hs
  go_enter Try.func25, Try.ntmps25
  go_upto_region 2 with fail
  rw [← hW]
  clear hW
  go_wp2_with fail
  -- STOP-a
  refine wp_loop_rounds 5 ?_
  rw [rounds_succ]
  go_wp2_with fail
  -- STOP-b
  -- ROUNDS
  refine (HC0.out _ _ _ HR.out HS.out).mono ?_
  rintro e w0 ⟨a0, r0, rfl, hb0, hs0, hg0⟩
  have HY0 := hid (HX3.out.grown hg0 (by simp; omega))
  have HZ0 := hid (HX2.out.grown hg0 (by simp; omega))
  have HB0 := hid hb0
  have HS0 := hid hs0
  have HG0 := hid (grownR_trans HGB.out hg0)
  have hz0 : w.heap.size + 2 ≤ w0.heap.size := by have := hg0.size; omega
  clear hb0 hs0 hg0
  obtain ⟨cHY0, fHY0, sHY0, nHY0⟩ := HY0.out.all
  try simp only [cbox] at cHY0
  go_wp2_with fail
  clear cHY0 fHY0 sHY0 nHY0
  obtain ⟨V0, hV0⟩ : ∃ q : World, q = w0.setCell ⟨w.heap.size + 1, 0, none⟩ (.int .i64 c0) := ⟨_, rfl⟩
  rw [← hV0]
  replace HR := hid (show Blk V0 rb (rbox L a0 r0) 64 by rw [hV0]; exact HB0.out.other (by simp; omega) _)
  replace HS := HS0
  replace HX3 := hid (show Blk V0 (w.heap.size + 1) #[.int .i64 c0, .int .i64 0, .int .i64 0, .int .i64 0, .slice none 0 0, .slice none 0 0] 28 by rw [hV0]; exact HY0.out.set 0 _)
  replace HX2 := hid (show Blk V0 w.heap.size #[.int .i64 0, .int .i64 0, .int .i64 0, .int .i64 0, .slice none 0 0, .slice none 0 0] 28 by rw [hV0]; exact HZ0.out.other (by simp) _)
  replace HGB := hid (show w.grownBy V0 (some rb) by rw [hV0]; exact grownR_store HG0.out (by omega) _ _)
  replace hWs : w.heap.size + 2 ≤ V0.heap.size := by rw [hV0]; simp [World.setCell]; omega
  clear hV0 HY0 HZ0 HB0 HS0 HG0 hz0
  rw [rounds_succ]
  go_wp2_with fail
  -- STOP-r0
  refine (HC1.out _ _ _ HR.out HS.out).mono ?_
  rintro e w1 ⟨a1, r1, rfl, hb1, hs1, hg1⟩
  have HY1 := hid (HX3.out.grown hg1 (by simp; omega))
  have HZ1 := hid (HX2.out.grown hg1 (by simp; omega))
  have HB1 := hid hb1
  have HS1 := hid hs1
  have HG1 := hid (grownR_trans HGB.out hg1)
  have hz1 : w.heap.size + 2 ≤ w1.heap.size := by have := hg1.size; omega
  clear hb1 hs1 hg1
  obtain ⟨cHY1, fHY1, sHY1, nHY1⟩ := HY1.out.all
  try simp only [cbox] at cHY1
  go_wp2_with fail
  clear cHY1 fHY1 sHY1 nHY1
  obtain ⟨V1, hV1⟩ : ∃ q : World, q = w1.setCell ⟨w.heap.size + 1, 1, none⟩ (.int .i64 c1) := ⟨_, rfl⟩
  rw [← hV1]
  replace HR := hid (show Blk V1 rb (rbox L a1 r1) 64 by rw [hV1]; exact HB1.out.other (by simp; omega) _)
  replace HS := HS1
  replace HX3 := hid (show Blk V1 (w.heap.size + 1) #[.int .i64 c0, .int .i64 c1, .int .i64 0, .int .i64 0, .slice none 0 0, .slice none 0 0] 28 by rw [hV1]; exact HY1.out.set 1 _)
  replace HX2 := hid (show Blk V1 w.heap.size #[.int .i64 0, .int .i64 0, .int .i64 0, .int .i64 0, .slice none 0 0, .slice none 0 0] 28 by rw [hV1]; exact HZ1.out.other (by simp) _)
  replace HGB := hid (show w.grownBy V1 (some rb) by rw [hV1]; exact grownR_store HG1.out (by omega) _ _)
  replace hWs : w.heap.size + 2 ≤ V1.heap.size := by rw [hV1]; simp [World.setCell]; omega
  clear hV1 HY1 HZ1 HB1 HS1 HG1 hz1
  rw [rounds_succ]
  go_wp2_with fail
  -- STOP-r1
  refine (HC2.out _ _ _ HR.out HS.out).mono ?_
  rintro e w2 ⟨a2, r2, rfl, hb2, hs2, hg2⟩
  have HY2 := hid (HX3.out.grown hg2 (by simp; omega))
  have HZ2 := hid (HX2.out.grown hg2 (by simp; omega))
  have HB2 := hid hb2
  have HS2 := hid hs2
  have HG2 := hid (grownR_trans HGB.out hg2)
  have hz2 : w.heap.size + 2 ≤ w2.heap.size := by have := hg2.size; omega
  clear hb2 hs2 hg2
  obtain ⟨cHY2, fHY2, sHY2, nHY2⟩ := HY2.out.all
  try simp only [cbox] at cHY2
  go_wp2_with fail
  clear cHY2 fHY2 sHY2 nHY2
  obtain ⟨V2, hV2⟩ : ∃ q : World, q = w2.setCell ⟨w.heap.size + 1, 2, none⟩ (.int .i64 c2) := ⟨_, rfl⟩
  rw [← hV2]
  replace HR := hid (show Blk V2 rb (rbox L a2 r2) 64 by rw [hV2]; exact HB2.out.other (by simp; omega) _)
  replace HS := HS2
  replace HX3 := hid (show Blk V2 (w.heap.size + 1) #[.int .i64 c0, .int .i64 c1, .int .i64 c2, .int .i64 0, .slice none 0 0, .slice none 0 0] 28 by rw [hV2]; exact HY2.out.set 2 _)
  replace HX2 := hid (show Blk V2 w.heap.size #[.int .i64 0, .int .i64 0, .int .i64 0, .int .i64 0, .slice none 0 0, .slice none 0 0] 28 by rw [hV2]; exact HZ2.out.other (by simp) _)
  replace HGB := hid (show w.grownBy V2 (some rb) by rw [hV2]; exact grownR_store HG2.out (by omega) _ _)
  replace hWs : w.heap.size + 2 ≤ V2.heap.size := by rw [hV2]; simp [World.setCell]; omega
  clear hV2 HY2 HZ2 HB2 HS2 HG2 hz2
  rw [rounds_succ]
  go_wp2_with fail
  -- STOP-r2
  refine (HC3.out _ _ _ HR.out HS.out).mono ?_
  rintro e w3 ⟨a3, r3, rfl, hb3, hs3, hg3⟩
  have HY3 := hid (HX3.out.grown hg3 (by simp; omega))
  have HZ3 := hid (HX2.out.grown hg3 (by simp; omega))
  have HB3 := hid hb3
  have HS3 := hid hs3
  have HG3 := hid (grownR_trans HGB.out hg3)
  have hz3 : w.heap.size + 2 ≤ w3.heap.size := by have := hg3.size; omega
  clear hb3 hs3 hg3
  obtain ⟨cHY3, fHY3, sHY3, nHY3⟩ := HY3.out.all
  try simp only [cbox] at cHY3
  go_wp2_with fail
  clear cHY3 fHY3 sHY3 nHY3
  obtain ⟨V3, hV3⟩ : ∃ q : World, q = w3.setCell ⟨w.heap.size + 1, 3, none⟩ (.int .i64 c3) := ⟨_, rfl⟩
  rw [← hV3]
  replace HR := hid (show Blk V3 rb (rbox L a3 r3) 64 by rw [hV3]; exact HB3.out.other (by simp; omega) _)
  replace HS := HS3
  replace HX3 := hid (show Blk V3 (w.heap.size + 1) #[.int .i64 c0, .int .i64 c1, .int .i64 c2, .int .i64 c3, .slice none 0 0, .slice none 0 0] 28 by rw [hV3]; exact HY3.out.set 3 _)
  replace HX2 := hid (show Blk V3 w.heap.size #[.int .i64 0, .int .i64 0, .int .i64 0, .int .i64 0, .slice none 0 0, .slice none 0 0] 28 by rw [hV3]; exact HZ3.out.other (by simp) _)
  replace HGB := hid (show w.grownBy V3 (some rb) by rw [hV3]; exact grownR_store HG3.out (by omega) _ _)
  replace hWs : w.heap.size + 2 ≤ V3.heap.size := by rw [hV3]; simp [World.setCell]; omega
  clear hV3 HY3 HZ3 HB3 HS3 HG3 hz3
  rw [rounds_succ]
  go_wp2_with fail
  -- STOP-r3
  -- ROUNDS-END
  refine (HC4.out _ _ _ HR.out HS.out).mono ?_
  rintro e w5 ⟨a5, r5, rfl, hb5, hs5, hg5⟩
  have HB5 := hid hb5
  have HS5 := hid hs5
  have HG5 := hid (grownR_trans HGB.out hg5)
  have hz5 : w.heap.size + 2 ≤ w5.heap.size := by have := hg5.size; omega
  replace HX3 := hid (HX3.out.grown hg5 (by simp; omega))
  replace HX2 := hid (HX2.out.grown hg5 (by simp; omega))
  clear hb5 hs5 hg5 HR HS HGB HC0 HC1 HC2 HC3 HC4 hWs
  go_wp2_with fail
  -- STOP-c
  go_loopw [18] (fun s18 wr => ∃ (j : Nat) (A : Option Addr) (k : Nat) (aj : Nat) (rj : Bool), j ≤ m ∧ s18 = .int .i64 j ∧ Hid (wr.ownsRow w5.heap.size 51 2 (.slice A j k) j (dcells (rdDots L s4 j).1)) ∧ Hid (Blk wr (w.heap.size + 1) #[.int .i64 c0, .int .i64 c1, .int .i64 c2, .int .i64 c3, .slice A j k, .slice none 0 0] 28) ∧
    Hid (Blk wr w.heap.size #[.int .i64 0, .int .i64 0, .int .i64 0, .int .i64 0, .slice none 0 0, .slice none 0 0] 28) ∧ Hid (Blk wr rb (rbox L aj rj) 64) ∧ Hid (RSt L (rdDots L s4 j).2 aj rj) ∧ w5.heap.size ≤ wr.heap.size ∧ Hid (w.grownBy wr (some rb))) (fun s18 _ => m - (intOf s18).toNat)
  case atStart => exact ⟨0, none, 0, a5, r5, by omega, rfl, hid (World.ownsRow_nil _ _ _ _), HX3, HX2, HB5, HS5, Nat.le_refl _, HG5⟩
  case round =>
    obtain ⟨j, A, k, aj, rj, hj, rfl, HO, HD3, HD2, HRB, HRS, hsz, HG⟩ := hrel
    by_cases hjm : j < m
    · have t1 : ((j : Int) < (m : Int)) = True := eq_true (by omega)
      obtain ⟨n1, q1, n2, q2, e1, e2, e3⟩ : ∃ n1 q1 n2 q2, nx L (rdDots L s4 j).2 = (n1, q1) ∧ nx L q1 = (n2, q2) ∧ rdDots L s4 (j + 1) = ((rdDots L s4 j).1 ++ [(n1, n2)], q2) := ⟨_, _, _, _, rfl, rfl, rfl⟩
      have HN1 := hid (fun w hb => by have := rnumber_any L hL (rdDots L s4 j).2 aj rj rb w hb HRS.out; rwa [e1] at this)
      have HN2 := hid (fun a wr w hb hs => by have := rnumber_any L hL q1 a wr rb w hb hs; rwa [e2] at this)
      simp only at HN1 HN2
      have HE := hid e3
      obtain ⟨DL, hDL⟩ : ∃ q, q = (rdDots L s4 j).1 := ⟨_, rfl⟩
      rw [← hDL] at HO HE
      clear e1 e2 e3 hDL HRS
      obtain ⟨wo, rfl⟩ : ∃ wx : World, wx = wr := ⟨_, rfl⟩
      have hdl : (dcells DL).length = j * 2 := HO.out.1
      have hmx : j + 1 ≤ maxLen := by simp only [maxLen]; omega
      have hby : (j + 1) * 16 ≤ 140737488355328 := by omega
      have hne3 : (w.heap.size + 1 = rb) = False := by simp; omega
      have hlt5 : w.heap.size + 1 < w5.heap.size := by omega
      have hne3' : some (w.heap.size + 1) ≠ some rb := by simp; omega
      have hrow' : ∀ g, (Value.slice A j k).ownBlock = some g → some g ≠ some rb := fun g e => by
        have := (HO.out.lt g e).1
        simp; omega
      go_upto_region 9 with fail
      have hc4 : wo.cell? ⟨w.heap.size + 1, 4, none⟩ = some (.slice A j k) := by rw [HD3.out.cells.1 4]; rfl
      have hf4 : wo.frozen? ⟨w.heap.size + 1, 4, none⟩ = false := HD3.out.cells.2 4
      -- STOP-d
      have hcd := blk_held (Blk.drew HD3.out)
      obtain ⟨hcd1, hcd2⟩ := hcd
      clear hc4 hf4
      go_region_law
        (first
          | (refine step_append_row elem_dotW (by rfl) _ _ (by rfl) w5.heap.size (.slice A j k) j (dcells DL) (by rfl) (World.ownsRow.alloc how6 _) (some ⟨w6.heap.size, 0, none⟩) 1 1 (w6.heap.size + 1) [.int .i64 n1, .int .i64 n2] (by rfl) (by rfl) (Row.new' w6 _ _ rfl rfl (Nat.lt_succ_self _)) (two_oneW n1 n2) hmx hby hs56 ?_; intro v7 w7 hown7 hg7 hif7; obtain ⟨A7, k7, rfl⟩ := own_formS hown7; obtain ⟨x7, x7'⟩ := blk_held (Blk.grown (Blk.alloc h36 _) hg7 (own_gt how6 hlt5)))
          | (go_simp; go_at_call 37; (with_reducible refine (HN2.out _ _ _ hb5 hs5).mono ?_); rintro e w6 ⟨a6, r6, rfl, hb6, hs6, hg6⟩; have h36 := Blk.grown h35 hg6 hne3'; have how6 := own_keptW how5 hg6 hrow'; obtain ⟨x6, x6'⟩ := blk_held h36; obtain ⟨x6a, x6a'⟩ := blk_held (Blk.alloc h36 (.cells #[.int .i64 n1, .int .i64 n2] 51)); have hs56 : w5.heap.size ≤ (w6.alloc (.cells #[.int .i64 n1, .int .i64 n2] 51)).heap.size := Nat.le_trans hsz (Nat.le_trans hs5z (Nat.le_trans hg6.size (le_alloc _ _))))
          | (go_simp; go_at_call 37; (with_reducible refine (HN1.out _ (Blk.drew HRB.out)).mono ?_); rintro e w5' ⟨a5', r5', rfl, hb5, hs5, hg5⟩; have h35 := Blk.grown (Blk.drew HD3.out) hg5 hne3'; have how5 := own_keptW (own_drew HO.out) hg5 hrow'; obtain ⟨x5, x5'⟩ := blk_held h35; have hs5z : wo.heap.size ≤ w5'.heap.size := hg5.size))
      -- STOP-e
      all_goals
        go_wp2_with fail
        -- STOP-f
        go_roundw
        case rel =>
          have hE1 : (rdDots L s4 (j + 1)).1 = DL ++ [(n1, n2)] := by rw [HE.out]
          have hE2 : (rdDots L s4 (j + 1)).2 = q2 := by rw [HE.out]
          have hg0 : w.grownBy wo.drew (some rb) := grownR_drew HG.out
          have hgA := grownR_trans (grownR_trans hg0 hg5) hg6
          have hd2 := Blk.grown (Blk.grown (Blk.drew HD2.out) hg5 (by simp; omega)) hg6 (by simp; omega)
          have hs6z : wo.heap.size ≤ w6.heap.size := Nat.le_trans hs5z hg6.size
          have hg7s : wo.heap.size ≤ w7.heap.size := Nat.le_trans hs6z (Nat.le_trans (le_alloc _ _) hg7.size)
          have hE3 : dcells (DL ++ [(n1, n2)]) = dcells DL ++ [.int .i64 n1, .int .i64 n2] := by rw [dcells, List.flatMap_append]; rfl
          refine ⟨j + 1, A7, k7, a6, r6, by omega, by go_num, hid ?_, hid ((Blk.grown (Blk.alloc h36 _) hg7 (own_gt how6 hlt5)).set 4 _), hid ((Blk.grown (Blk.alloc hd2 _) hg7 (own_gt how6 (by omega))).other (by simp) _), hid ((Blk.grown (Blk.alloc hb6 _) hg7 (own_gt how6 (by omega))).other (by simp; omega) _), hid (by rw [hE2]; exact hs6), ?_, hid (grownR_store (grownR_own (grownR_alloc hgA _) hg7 (fun g e => by have := (how6.lt g e).1; omega)) (by omega) _ _)⟩
          · rw [hE1, hE3]
            exact own_setS hown7 hlt5 4 _
          · simp only [World.setCell, Array.size_modify]
            omega
        case measure => simp [intOf]; omega
    · have hjm2 : j = m := by omega
      subst hjm2
      have hal := HRS.out.1
      obtain ⟨wo, rfl⟩ : ∃ wx : World, wx = wr := ⟨_, rfl⟩
      go_wp2_with fail
      -- STOP-g
      refine (HC5.out _ _ _ HRB.out HRS.out).mono ?_
      rintro e u5 ⟨b5, q5, rfl, hb5, hs5, hg5⟩
      have HB6 := hid hb5
      have HS6 := hid hs5
      have HG6 := hid (grownR_trans HG.out hg5)
      have HE3 := hid (HD3.out.grown hg5 (by simp; omega))
      have HE2 := hid (HD2.out.grown hg5 (by simp; omega))
      have HOD := hid (own_keptW HO.out hg5 (fun g e => by have := (HO.out.lt g e).1; simp; omega))
      have hsu : w5.heap.size ≤ u5.heap.size := Nat.le_trans hsz hg5.size
      clear hb5 hs5 hg5 HC5 HD3 HD2 HO HRB HRS HG
      obtain ⟨CL, hCL⟩ : ∃ q, q = (rdDots L s4 j).1 := ⟨_, rfl⟩
      rw [← hCL] at HOD
      have HCLL := hid (show CL.length = j by rw [hCL, rdDots_len])
      have HCLQ := hid hCL
      clear hCL
      go_wp2_with fail
      -- STOP-h
      go_loopw [35] (fun s35 wr => ∃ (i : Nat) (B : Option Addr) (k' : Nat) (aj : Nat) (rj : Bool), i ≤ n ∧ s35 = .int .i64 i ∧ Hid (wr.ownsRow w5.heap.size 51 2 (.slice A j k) j (dcells CL)) ∧ Hid (wr.ownsRow w5.heap.size 53 5 (.slice B i k') i (tcells (rdCels L s5 i).1)) ∧
        Hid (Blk wr (w.heap.size + 1) #[.int .i64 c0, .int .i64 c1, .int .i64 c2, .int .i64 c3, .slice A j k, .slice B i k'] 28) ∧ Hid (Blk wr w.heap.size #[.int .i64 0, .int .i64 0, .int .i64 0, .int .i64 0, .slice none 0 0, .slice none 0 0] 28) ∧ Hid (Blk wr rb (rbox L aj rj) 64) ∧ Hid (RSt L (rdCels L s5 i).2 aj rj) ∧ w5.heap.size ≤ wr.heap.size ∧ Hid (w.grownBy wr (some rb))) (fun s35 _ => n - (intOf s35).toNat)
      case atStart => exact ⟨0, none, 0, b5, q5, by omega, rfl, HOD, hid (World.ownsRow_nil _ _ _ _), HE3, HE2, HB6, HS6, hsu, HG6⟩
      case round =>
        obtain ⟨i, B, k', aj, rj, hi, rfl, HO1, HO2, HD3, HD2, HRB, HRS, hsz, HG⟩ := hrel
        by_cases hin : i < n
        · have t1 : ((i : Int) < (n : Int)) = True := eq_true (by omega)
          obtain ⟨n1, p1, n2, p2, n3, p3, n4, p4, n5, p5, e1, e2, e3, e4, e5, e6⟩ : ∃ n1 p1 n2 p2 n3 p3 n4 p4 n5 p5, nx L (rdCels L s5 i).2 = (n1, p1) ∧ nx L p1 = (n2, p2) ∧ nx L p2 = (n3, p3) ∧ nx L p3 = (n4, p4) ∧ nx L p4 = (n5, p5) ∧ rdCels L s5 (i + 1) = ((rdCels L s5 i).1 ++ [⟨(n1, n2), n3, n4, n5⟩], p5) := ⟨_, _, _, _, _, _, _, _, _, _, rfl, rfl, rfl, rfl, rfl, rfl⟩
          have HN1 := hid (fun w hb => by have := rnumber_any L hL (rdCels L s5 i).2 aj rj rb w hb HRS.out; rwa [e1] at this)
          have HN2 := hid (fun a wr w hb hs => by have := rnumber_any L hL p1 a wr rb w hb hs; rwa [e2] at this)
          have HN3 := hid (fun a wr w hb hs => by have := rnumber_any L hL p2 a wr rb w hb hs; rwa [e3] at this)
          have HN4 := hid (fun a wr w hb hs => by have := rnumber_any L hL p3 a wr rb w hb hs; rwa [e4] at this)
          have HN5 := hid (fun a wr w hb hs => by have := rnumber_any L hL p4 a wr rb w hb hs; rwa [e5] at this)
          simp only at HN1 HN2 HN3 HN4 HN5
          have HE := hid e6
          obtain ⟨XL, hXL⟩ : ∃ q, q = (rdCels L s5 i).1 := ⟨_, rfl⟩
          rw [← hXL] at HO2 HE
          clear e1 e2 e3 e4 e5 e6 hXL HRS
          have hmx : i + 1 ≤ maxLen := by simp only [maxLen]; omega
          have hby : (i + 1) * 40 ≤ 140737488355328 := by omega
          have hlt5 : w.heap.size + 1 < w5.heap.size := by omega
          have hrow1 : ∀ g, (Value.slice A j k).ownBlock = some g → some g ≠ some rb := fun g e => by
            have := (HO1.out.lt g e).1
            simp; omega
          have hrow2 : ∀ g, (Value.slice B i k').ownBlock = some g → some g ≠ some rb := fun g e => by
            have := (HO2.out.lt g e).1
            simp; omega
          have hne3' : some (w.heap.size + 1) ≠ some rb := by simp; omega
          have hne2' : some w.heap.size ≠ some rb := by simp; omega
          obtain ⟨wo, rfl⟩ : ∃ wx : World, wx = wr := ⟨_, rfl⟩
          go_wp2_with fail
          -- STOP-j
          refine (HN1.out _ HRB.out).mono ?_
          rintro e y1 ⟨a1, r1, rfl, hb1, hs1, hg1⟩
          have HB1 := hid hb1
          have HS1 := hid hs1
          have HD31 := hid (HD3.out.grown hg1 hne3')
          have HD21 := hid (HD2.out.grown hg1 hne2')
          have HO11 := hid (own_keptW HO1.out hg1 hrow1)
          have HO21 := hid (own_keptW HO2.out hg1 hrow2)
          have HG1 := hid (grownR_trans HG.out hg1)
          have hz1 : wo.heap.size ≤ y1.heap.size := hg1.size
          clear hb1 hs1 hg1 HN1 HD3 HD2 HRB HG HO1 HO2
          go_wp2_with fail
          refine (HN2.out _ _ _ HB1.out HS1.out).mono ?_
          rintro e y2 ⟨a2, r2, rfl, hb2, hs2, hg2⟩
          obtain ⟨WD, hWD⟩ : ∃ q : World, q = y2.alloc (.cells #[.int .i64 n1, .int .i64 n2] 51) := ⟨_, rfl⟩
          have HBD := hid (show Below y2.heap.size y2 WD by rw [hWD]; exact alloc_below (Below.refl _ _) _)
          have HDB := hid (show Blk WD y2.heap.size #[.int .i64 n1, .int .i64 n2] 51 by rw [hWD]; exact Blk.new _ _ _)
          have HB2 := hid (Blk.step hb2 HBD.out)
          have HS2 := hid hs2
          have HD32 := hid ((HD31.out.grown hg2 hne3').step HBD.out)
          have HD22 := hid ((HD21.out.grown hg2 hne2').step HBD.out)
          have HO12 := hid (own_laterS (own_keptW HO11.out hg2 hrow1) HBD.out)
          have HO22 := hid (own_laterS (own_keptW HO21.out hg2 hrow2) HBD.out)
          have HG2 := hid (show w.grownBy WD (some rb) by rw [hWD]; exact grownR_alloc (grownR_trans HG1.out hg2) _)
          have hz2 : wo.heap.size ≤ y2.heap.size := Nat.le_trans hz1 hg2.size
          have hzD : y2.heap.size < WD.heap.size := by rw [hWD]; simp
          have hneD : some y2.heap.size ≠ some rb := by simp; omega
          clear hb2 hs2 hg2 HN2 HB1 HS1 HD31 HD21 HO11 HO21 HG1
          go_upto_region 14 with fail
          rw [← hWD]
          clear hWD
          -- STOP-k
          obtain ⟨hcd1, hcd2⟩ := blk_held5 (Blk.drew HD32.out)
          obtain ⟨hdd1, hdd2⟩ := blk_two (Blk.drew HDB.out)
          go_region_law
              (first
                | (refine step_append_row elem_celW (by rfl) _ _ (by rfl) w5.heap.size (.slice B i k') i (tcells XL) (by rfl) (World.ownsRow.alloc how8 _) (some ⟨w8.heap.size, 0, none⟩) 1 1 (w8.heap.size + 1) [.int .i64 n1, .int .i64 n2, .int .i64 n3, .int .i64 n4, .int .i64 n5] (by rfl) (by rfl) (Row.new' w8 _ _ rfl rfl (Nat.lt_succ_self _)) (five_oneW n1 n2 n3 n4 n5) hmx hby hs89 ?_; intro v9 w9 hown9 hg9 hif9; obtain ⟨B9, k9, rfl⟩ := own_formS hown9; obtain ⟨x9, x9'⟩ := blk_held5 (Blk.grown (Blk.alloc h38 _) hg9 (own_gt how8 hlt5)))
                | (go_simp; go_at_call 37; (with_reducible refine (HN5.out _ _ _ hb7 hs7).mono ?_); rintro e w8 ⟨a8, r8, rfl, hb8, hs8, hg8⟩; have h38 := Blk.grown h37 hg8 hne3'; have hd8 := Blk.grown hd7 hg8 hneD; have how8 := own_keptW how7 hg8 hrow2; obtain ⟨x8, x8'⟩ := blk_held5 h38; obtain ⟨z8, z8'⟩ := blk_two hd8; obtain ⟨x8a, x8a'⟩ := blk_held5 (Blk.alloc h38 (.cells #[.int .i64 n1, .int .i64 n2, .int .i64 n3, .int .i64 n4, .int .i64 n5] 53)); have hz8 : WD.heap.size ≤ w8.heap.size := Nat.le_trans hz7 hg8.size; have hs89 : w5.heap.size ≤ (w8.alloc (.cells #[.int .i64 n1, .int .i64 n2, .int .i64 n3, .int .i64 n4, .int .i64 n5] 53)).heap.size := Nat.le_trans hsz (Nat.le_trans hz2 (Nat.le_trans (Nat.le_of_lt hzD) (Nat.le_trans hz8 (le_alloc _ _)))))
                | (go_simp; go_at_call 37; (with_reducible refine (HN4.out _ _ _ hb6 hs6).mono ?_); rintro e w7 ⟨a7, r7, rfl, hb7, hs7, hg7⟩; have h37 := Blk.grown h36 hg7 hne3'; have hd7 := Blk.grown hd6 hg7 hneD; have how7 := own_keptW how6 hg7 hrow2; obtain ⟨x7, x7'⟩ := blk_held5 h37; obtain ⟨z7, z7'⟩ := blk_two hd7; have hz7 : WD.heap.size ≤ w7.heap.size := Nat.le_trans hz6 hg7.size)
                | (go_simp; go_at_call 37; (with_reducible refine (HN3.out _ _ _ (Blk.drew HB2.out) HS2.out).mono ?_); rintro e w6 ⟨a6, r6, rfl, hb6, hs6, hg6⟩; have h36 := Blk.grown (Blk.drew HD32.out) hg6 hne3'; have hd6 := Blk.grown (Blk.drew HDB.out) hg6 hneD; have how6 := own_keptW (own_drew HO22.out) hg6 hrow2; obtain ⟨x6, x6'⟩ := blk_held5 h36; obtain ⟨z6, z6'⟩ := blk_two hd6; have hz6 : WD.heap.size ≤ w6.heap.size := hg6.size))
          -- STOP-l
          all_goals
            go_wp2_with fail
            go_roundw
            case rel =>
              have hgA := grownR_trans (grownR_trans (grownR_trans (grownR_drew HG2.out) hg6) hg7) hg8
              have hd2 := Blk.grown (Blk.grown (Blk.grown (Blk.drew HD22.out) hg6 hne2') hg7 hne2') hg8 hne2'
              have how1 := World.ownsRow.alloc (own_keptW (own_keptW (own_keptW (own_drew HO12.out) hg6 hrow1) hg7 hrow1) hg8 hrow1) (.cells #[.int .i64 n1, .int .i64 n2, .int .i64 n3, .int .i64 n4, .int .i64 n5] 53)
              have h9z : WD.heap.size ≤ w9.heap.size := Nat.le_trans hz8 (Nat.le_trans (le_alloc _ _) hg9.size)
              have hE1 : (rdCels L s5 (i + 1)).1 = XL ++ [⟨(n1, n2), n3, n4, n5⟩] := by rw [HE.out]
              have hE2 : (rdCels L s5 (i + 1)).2 = p5 := by rw [HE.out]
              have hE3 : tcells (XL ++ [(⟨(n1, n2), n3, n4, n5⟩ : Cel)]) = tcells XL ++ [.int .i64 n1, .int .i64 n2, .int .i64 n3, .int .i64 n4, .int .i64 n5] := by rw [tcells, List.flatMap_append]; rfl
              refine ⟨i + 1, B9, k9, a8, r8, by omega, by go_num, hid (own_setS (own_keptW how1 hg9 (own_apart how1 (World.ownsRow.alloc how8 _) ne_dot_cel)) hlt5 5 _), hid (by rw [hE1, hE3]; exact own_setS hown9 hlt5 5 _), hid ((Blk.grown (Blk.alloc h38 _) hg9 (own_gt how8 hlt5)).set 5 _), hid ((Blk.grown (Blk.alloc hd2 _) hg9 (own_gt how8 (by omega))).other (by simp) _), hid ((Blk.grown (Blk.alloc hb8 _) hg9 (own_gt how8 (by omega))).other (by simp; omega) _), hid (by rw [hE2]; exact hs8), ?_, hid (grownR_store (grownR_own (grownR_alloc hgA _) hg9 (fun g e => by have := (how8.lt g e).1; omega)) (by omega) _ _)⟩
              simp only [World.setCell, Array.size_modify]
              omega
            case measure => simp [intOf]; omega
        · have hin2 : i = n := by omega
          subst hin2
          obtain ⟨cHD3, fHD3, sHD3, nHD3⟩ := HD3.out.all
          try simp only [cbox] at cHD3
          obtain ⟨cHD2, fHD2, sHD2, nHD2⟩ := HD2.out.all
          try simp only [cbox] at cHD2
          go_wp2_with fail
          -- STOP-i
          obtain ⟨W9, hW9⟩ : ∃ q : World, q = ((((((wr.setCell ⟨w.heap.size, 0, none⟩ (.int .i64 c0)).setCell ⟨w.heap.size, 1, none⟩ (.int .i64 c1)).setCell ⟨w.heap.size, 2, none⟩ (.int .i64 c2)).setCell ⟨w.heap.size, 3, none⟩ (.int .i64 c3)).setCell ⟨w.heap.size, 4, none⟩ (.slice A j k)).setCell ⟨w.heap.size, 5, none⟩ (.slice B i k')) := ⟨_, rfl⟩
          rw [← hW9]
          have hlt2 : w.heap.size < w5.heap.size := by omega
          have HF := hid (show Blk W9 w.heap.size #[.int .i64 c0, .int .i64 c1, .int .i64 c2, .int .i64 c3, .slice A j k, .slice B i k'] 28 by
            rw [hW9]; exact (((((HD2.out.set 0 _).set 1 _).set 2 _).set 3 _).set 4 _).set 5 _)
          have HF1 := hid (show W9.ownsRow w5.heap.size 51 2 (.slice A j k) j (dcells CL) by
            rw [hW9]; exact own_setS (own_setS (own_setS (own_setS (own_setS (own_setS HO1.out hlt2 _ _) hlt2 _ _) hlt2 _ _) hlt2 _ _) hlt2 _ _) hlt2 _ _)
          have HF2 := hid (show W9.ownsRow w5.heap.size 53 5 (.slice B i k') i (tcells (rdCels L s5 i).1) by
            rw [hW9]; exact own_setS (own_setS (own_setS (own_setS (own_setS (own_setS HO2.out hlt2 _ _) hlt2 _ _) hlt2 _ _) hlt2 _ _) hlt2 _ _) hlt2 _ _)
          have HF3 := hid (show Blk W9 rb (rbox L aj rj) 64 by
            have hne : rb ≠ w.heap.size := by omega
            rw [hW9]; exact (((((HRB.out.other hne _).other hne _).other hne _).other hne _).other hne _).other hne _)
          have HF4 := hid (show w.grownBy W9 (some rb) by
            rw [hW9]; exact grownR_store (grownR_store (grownR_store (grownR_store (grownR_store (grownR_store HG.out (Nat.le_refl _) _ _) (Nat.le_refl _) _ _) (Nat.le_refl _) _ _) (Nat.le_refl _) _ _) (Nat.le_refl _) _ _) (Nat.le_refl _) _ _)
          have hln := rdCels_len L s5 i
          clear hW9 cHD3 fHD3 sHD3 nHD3 cHD2 fHD2 sHD2 nHD2
          refine bodyPost_ret (results_cell_row rfl _ _ w.heap.size 28 _ (0, 0) _ rfl HF.out Try.underlying28 rfl (by kernel_rfl)) rfl ?_
          rw [← HCLQ.out]
          refine ⟨⟨⟨⟨c0, c1, c2, c3, CL⟩, (rdCels L s5 i).1⟩, A, k, B, k'⟩, aj, rj, rfl, ?_, ?_, ?_, HF3.out, HRS.out, HF4.out⟩
          · show Ending.returned (Value.agg #[.int .i64 c0, .int .i64 c1, .int .i64 c2, .int .i64 c3, .slice A j k, .slice B i k']) = Ending.returned (Value.agg #[.int .i64 c0, .int .i64 c1, .int .i64 c2, .int .i64 c3, .slice A CL.length k, .slice B (rdCels L s5 i).1.length k'])
            rw [HCLL.out, hln]
          · show W9.ownsRow w.heap.size 51 2 (.slice A CL.length k) CL.length (dcells CL)
            rw [HCLL.out]
            exact own_baseS HF1.out (by omega)
          · show W9.ownsRow w.heap.size 53 5 (.slice B (rdCels L s5 i).1.length k') (rdCels L s5 i).1.length (tcells (rdCels L s5 i).1)
            rw [hln]
            exact own_baseS HF2.out (by omega)
end Go.Proofs.Ytnnabfjlmenmgaa
