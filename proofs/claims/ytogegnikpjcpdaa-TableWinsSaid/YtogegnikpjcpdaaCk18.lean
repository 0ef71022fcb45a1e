/- TEd, OpenE -/
import Derived.Test.YtogegnikpjcpdaaCk13
import Derived.Test.YtogegnikpjcpdaaCk17
import Derived.Deep.RegionHeld3
import Derived.Test.YtogegnikpjcpdaaCk14
/- viewkeep.TableEdits: the walk. -/
namespace Go.Proofs.Ytogegnikpjcpdaa
set_option linter.unusedVariables false
open Go.ChangeShapes Go.WideShapes Go.ChangeAt Go.RowKit

/-- A list of ints that is [x], and a literal [x]. -/
theorem equalI_lit {L : List Int} {x : Int} (hL : L = [x]) {A : Option Addr} {c b X : Nat} {w : World} (ho : w.ownsRow b 3 1 (.slice A L.length c) L.length (icells L)) (hX : Blk w X #[.int .i64 x] 3) :
    Calls Try.prog 49 #[.slice A L.length c, .slice (some ⟨X, 0, none⟩) 1 1] w fun e w' => e = .returned (.bool true) ∧ Below w.heap.size w w' := by
  have hr : Row w w.heap.size (some ⟨X, 0, none⟩) (icells [x]) := .inr ⟨X, 0, rfl, hX.lt, fun i v h => by
    match i, h with
    | 0, h => rw [← h]; exact hX.cells.1 0⟩
  have h := equalI_any L [x] A (some ⟨X, 0, none⟩) c 1 w (Row.of_ownS ho) hr (by rw [hL]; simp) (by simp)
  rwa [show decide (L = [x]) = true from by simp [hL]] at h

theorem equalI_twin (l : List Int) (A B : Option Addr) (c e b b' : Nat) (w : World) (ho : w.ownsRow b 3 1 (.slice A l.length c) l.length (icells l)) (ho' : w.ownsRow b' 3 1 (.slice B l.length e) l.length (icells l)) (hl : l.length ≤ 9223372036854775807) :
    Calls Try.prog 49 #[.slice A l.length c, .slice B l.length e] w fun e w' => e = .returned (.bool true) ∧ Below w.heap.size w w' := by
  have h := equalI_any l l A B c e w (Row.of_ownS ho) (Row.of_ownS ho') hl hl
  rwa [show decide (l = l) = true from by simp] at h

set_option maxHeartbeats 8000000 in
set_option maxRecDepth 100000 in
theorem ted_any (l : List Ed) (A : Option Addr) (k0 : Nat) (n key col val other : Int) (w : World) (hr : Row w w.heap.size A (ecells l)) (hl : l.length ≤ 9223372036854775807) (hcap : l.length ≤ k0) :
    Calls Try.prog 12 #[.slice A l.length k0, .int .i64 n, .int .i64 key, .int .i64 col, .int .i64 val, .int .i64 other] w fun e w' => e = .returned (.bool true) ∧ Below w.heap.size w w' := by
  have HE := hid (fun w1 (hb : Below w.heap.size w w1) => edited_any l A k0 w1 (hr.step hb) hl hcap)
  have hrt := editX_right l
  clear hr
  obtain ⟨t, ht⟩ : ∃ t, t = editX l := ⟨_, rfl⟩
  rw [← ht] at HE hrt
  clear ht
  obtain ⟨tl1, tl2⟩ := tab_small hrt
  obtain ⟨pl1, pl2⟩ := putX_len t n key col val
  obtain ⟨dl1, dl2⟩ := delX_len t key
  have HL1 : Hid (putE t n key col val = 0 → (mergeE t (putX t n key col val) ≠ 0 → mergeE t (putX t n key col val) = 2) ∧ (mergeE t (putX t n key col val) = 0 → tabI (mergeX t (putX t n key col val)) = 0 ∧ valsL (mergeX t (putX t n key col val)) key col = [val] ∧
      (other ≠ col → valsL (mergeX t (putX t n key col val)) key other = valsL t key other))) := hid (fun h => ⟨merge_large hrt (put_ok h).1 (put_apart h), fun h2 => ⟨(merge_ok h2).1, put_values (other := other) h h2⟩⟩)
  have HL2 : Hid (delE t key ≠ 0 → decide (key ∈ keysL t) = false) := hid (fun h => by simpa using del_none hrt h)
  have HL3 : Hid (delE t key = 0 → mergeE t (delX t key) = 0 ∧ tabI (mergeX t (delX t key)) = 0 ∧ decide (key ∈ keysL (mergeX t (delX t key))) = false ∧ (keysL (mergeX t (delX t key))).length + 1 = (keysL t).length) :=
    hid (fun h => ⟨(del_keys h).1, (del_merge h).2.1, by simpa using (del_keys h).2.1, (del_keys h).2.2⟩)
  have HPU := hid (fun A2 k2 B2 m2 (w1 : World) (h1 : Row w1 w1.heap.size A2 (dcells t.c.cloud)) (h2 : Row w1 w1.heap.size B2 (tcells t.cells)) => put_any t n key col val A2 k2 B2 m2 w1 h1 (by omega) h2 (by omega))
  have HDE := hid (fun A2 k2 B2 m2 (w1 : World) (h1 : Row w1 w1.heap.size A2 (dcells t.c.cloud)) (h2 : Row w1 w1.heap.size B2 (tcells t.cells)) => del_any t key A2 k2 B2 m2 w1 h1 (by omega) h2 (by omega))
  have HKT := hid (fun A2 k2 B2 m2 (w1 : World) (h2 : Row w1 w1.heap.size B2 (tcells t.cells)) => keys_any t A2 k2 B2 m2 w1 h2 (by omega))
  have HVT := hid (fun A2 k2 B2 m2 (w1 : World) (h2 : Row w1 w1.heap.size B2 (tcells t.cells)) => values_any t key other A2 k2 B2 m2 w1 h2 (by omega))
  have HM1 := hid (fun A2 k2 B2 m2 A3 k3 B3 m3 (w1 : World) (h1 : Row w1 w1.heap.size A2 (dcells t.c.cloud)) (h2 : Row w1 w1.heap.size B2 (tcells t.cells)) (h3 : Row w1 w1.heap.size A3 (dcells (putX t n key col val).c.cloud)) (h4 : Row w1 w1.heap.size B3 (tcells (putX t n key col val).cells)) =>
    merge_any t (putX t n key col val) A2 k2 B2 m2 A3 k3 B3 m3 w1 h1 (by omega) h2 (by omega) h3 (by omega) h4 (by omega))
  have HM2 := hid (fun A2 k2 B2 m2 A3 k3 B3 m3 (w1 : World) (h1 : Row w1 w1.heap.size A2 (dcells t.c.cloud)) (h2 : Row w1 w1.heap.size B2 (tcells t.cells)) (h3 : Row w1 w1.heap.size A3 (dcells (delX t key).c.cloud)) (h4 : Row w1 w1.heap.size B3 (tcells (delX t key).cells)) =>
    merge_any t (delX t key) A2 k2 B2 m2 A3 k3 B3 m3 w1 h1 (by omega) h2 (by omega) h3 (by omega) h4 (by omega))
  have lkt := keysL_len t
  have lvt := valsL_len t key other
  obtain ⟨P, hP⟩ : ∃ P, P = putX t n key col val := ⟨_, rfl⟩
  obtain ⟨PE, hPE⟩ : ∃ PE, PE = putE t n key col val := ⟨_, rfl⟩
  obtain ⟨D, hD⟩ : ∃ D, D = delX t key := ⟨_, rfl⟩
  obtain ⟨DE, hDE⟩ : ∃ DE, DE = delE t key := ⟨_, rfl⟩
  rw [← hP] at HPU HM1 HL1
  rw [← hPE] at HPU HL1
  rw [← hD] at HDE HM2 HL3
  rw [← hDE] at HDE HL2 HL3
  clear hP hPE hD hDE
  obtain ⟨X1, hX1⟩ : ∃ X, X = mergeX t P := ⟨_, rfl⟩
  obtain ⟨E1, hE1⟩ : ∃ X, X = mergeE t P := ⟨_, rfl⟩
  obtain ⟨X2, hX2⟩ : ∃ X, X = mergeX t D := ⟨_, rfl⟩
  obtain ⟨E2, hE2⟩ : ∃ X, X = mergeE t D := ⟨_, rfl⟩
  rw [← hX1, ← hE1] at HM1 HL1
  rw [← hX2, ← hE2] at HM2 HL3
  clear hX1 hE1 hX2 hE2
  have HV1 := hid (fun (hx : X1.cells.length ≤ 400) A2 k2 B2 m2 (w1 : World) (h2 : Row w1 w1.heap.size B2 (tcells X1.cells)) => values_any X1 key col A2 k2 B2 m2 w1 h2 (by omega))
  have HVO := hid (fun (hx : X1.cells.length ≤ 400) A2 k2 B2 m2 (w1 : World) (h2 : Row w1 w1.heap.size B2 (tcells X1.cells)) => values_any X1 key other A2 k2 B2 m2 w1 h2 (by omega))
  have HK2 := hid (fun (hx : X2.cells.length ≤ 400) A2 k2 B2 m2 (w1 : World) (h2 : Row w1 w1.heap.size B2 (tcells X2.cells)) => keys_any X2 A2 k2 B2 m2 w1 h2 (by omega))
  obtain ⟨VT, hVT⟩ : ∃ X, X = valsL t key other := ⟨_, rfl⟩
  obtain ⟨V1, hV1⟩ : ∃ X, X = valsL X1 key col := ⟨_, rfl⟩
  obtain ⟨VO, hVO⟩ : ∃ X, X = valsL X1 key other := ⟨_, rfl⟩
  obtain ⟨KT, hKT⟩ : ∃ X, X = keysL t := ⟨_, rfl⟩
  obtain ⟨K2, hK2⟩ : ∃ X, X = keysL X2 := ⟨_, rfl⟩
  rw [← hVT] at HVT HL1 lvt
  rw [← hV1] at HV1 HL1
  rw [← hVO] at HVO HL1
  rw [← hKT] at HKT HL2 HL3 lkt
  rw [← hK2] at HK2 HL3
  clear hVT hV1 hVO hKT hK2 hrt
  have HKC := hid (fun A2 c2 (w1 : World) (h : Row w1 w1.heap.size A2 (icells KT)) => containsI_any KT key A2 c2 w1 h (by omega))
  have HKC2 := hid (fun (hx : K2.length + 1 = KT.length) A2 c2 (w1 : World) (h : Row w1 w1.heap.size A2 (icells K2)) => containsI_any K2 key A2 c2 w1 h (by omega))
  have HLT := hid (show VT.length ≤ 9223372036854775807 by omega)
  have HLK := hid (show KT.length ≤ 400 by omega)
  clear lkt lvt tl1 tl2 pl1 pl2 dl1 dl2
  obtain ⟨⟨c0, c1, c2, c3, cl⟩, cs⟩ := t
  obtain ⟨⟨p0, p1, p2, p3, pl⟩, ps⟩ := P
  obtain ⟨⟨d0, d1, d2, d3, dl⟩, ds⟩ := D
  obtain ⟨⟨x0, x1, x2, x3, xl⟩, xs⟩ := X1
  obtain ⟨⟨y0, y1, y2, y3, yl⟩, ys⟩ := X2
  simp only [tval] at HPU HDE HKT HVT HM1 HM2 HV1 HVO HK2
  try simp only at HPU HDE HKT HVT HM1 HM2 HV1 HVO HK2
  go_enter Try.func12, Try.ntmps12
  go_wp2_with fail
  refine (puts_any _).mono ?_
  rintro e w1 ⟨rfl, hb1⟩
  have HBW := hid (show Below w.heap.size w w1 from (by refine Below.step' ?_ hb1; (repeat' (first | (with_reducible exact Below.refl _ _) | (with_reducible assumption) | (with_reducible refine below_drewN ?_ _) | (with_reducible refine Below.drew ?_) | (with_reducible refine Below.alloc ?_ ?_ _) | (with_reducible refine Below.setCell ?_ ?_ _) | (refine Below.trans ?_ (Below.mono (by assumption) ?_)) | go_size))))
  clear hb1
  go_wp2_with fail
  refine (HE.out _ HBW.out).mono ?_
  rintro e w2 ⟨A2, k2, B2, m2, rfl, hr2, hs2, hb2, -, -⟩
  simp only [tval] at hr2 hs2 ⊢
  replace HBW := hid (Below.step' HBW.out hb2)
  have HR2 := hid hr2
  have HS2 := hid hs2
  clear hr2 hs2 hb2 HE
  go_wp2_with fail
  refine (HPU.out _ _ _ _ _ (HR2.out.alloc _) (HS2.out.alloc _)).mono ?_
  rintro e w3 ⟨A3, k3, B3, m3, rfl, hr3, hs3, hb3, -, -⟩
  simp only [tval] at hr3 hs3 ⊢
  have hB3 : Below w2.heap.size w2 w3 := (by refine Below.step' ?_ hb3; (repeat' (first | (with_reducible exact Below.refl _ _) | (with_reducible assumption) | (with_reducible refine below_drewN ?_ _) | (with_reducible refine Below.drew ?_) | (with_reducible refine Below.alloc ?_ ?_ _) | (with_reducible refine Below.setCell ?_ ?_ _) | (refine Below.trans ?_ (Below.mono (by assumption) ?_)) | go_size)))
  have HXT := hid (Blk.step (Blk.new w2 #[.int .i64 c0, .int .i64 c1, .int .i64 c2, .int .i64 c3, .slice A2 cl.length k2, .slice B2 cs.length m2] 59) hb3)
  replace HR2 := hid (HR2.out.step hB3)
  replace HS2 := hid (HS2.out.step hB3)
  replace HBW := hid (Below.step' HBW.out hB3)
  have HR3 := hid hr3
  have HS3 := hid hs3
  clear hr3 hs3 hb3 hB3 HPU
  by_cases qP : PE = 0
  rotate_left
  · have t1 : (PE == 0) = false := by simpa using qP
    clear qP HL1 HM1 HV1 HVO HVT HLT
    go_upto_region 11 with fail
    have hB4 : Below w3.heap.size w3 (w3.alloc (.cells #[.int .i64 p0, .int .i64 p1, .int .i64 p2, .int .i64 p3, .slice A3 pl.length k3, .slice B3 ps.length m3] 59)) := (Below.refl _ _).alloc (Nat.le_refl _) _
    replace HXT := hid (HXT.out.step hB4)
    replace HR2 := hid (HR2.out.step hB4)
    replace HS2 := hid (HS2.out.step hB4)
    replace HBW := hid (Below.step' HBW.out hB4)
    obtain ⟨W, hW⟩ : ∃ W : World, W = w3.alloc (.cells #[.int .i64 p0, .int .i64 p1, .int .i64 p2, .int .i64 p3, .slice A3 pl.length k3, .slice B3 ps.length m3] 59) := ⟨_, rfl⟩
    rw [← hW] at HXT HR2 HS2 HBW ⊢
    clear hW hB4 HR3 HS3
    obtain ⟨cHXT, fHXT, sHXT, nHXT⟩ := HXT.out.all
    try simp only [cbox] at cHXT
    go_wp2_with fail
    refine (HDE.out _ _ _ _ _ HR2.out HS2.out).mono ?_
    rintro e v5 ⟨A5, k5, B5, m5, rfl, hr5, hs5, hb5, -, -⟩
    simp only [tval] at hr5 hs5 ⊢
    clear cHXT fHXT sHXT nHXT
    replace HXT := hid (HXT.out.step hb5)
    replace HR2 := hid (HR2.out.step hb5)
    replace HS2 := hid (HS2.out.step hb5)
    replace HBW := hid (Below.step' HBW.out hb5)
    have HR5 := hid hr5
    have HS5 := hid hs5
    clear hr5 hs5 hb5
    -- STOP1
    by_cases qD : DE = 0
    rotate_left
    · have t2 : (DE != 0) = true := by simpa using qD
      have KQ := hid (HL2.out qD)
      clear qD
      obtain ⟨cHXT, fHXT, sHXT, nHXT⟩ := HXT.out.all
      try simp only [cbox] at cHXT
      go_wp2_with fail
      refine (HKT.out _ _ _ _ _ (HS2.out.alloc _)).mono ?_
      rintro e v6 ⟨va, rfl, oa, hb6⟩
      obtain ⟨Aa, ca, rfl⟩ := own_formS oa
      have hB6 : Below v5.heap.size v5 v6 := (by refine Below.step' ?_ hb6; (repeat' (first | (with_reducible exact Below.refl _ _) | (with_reducible assumption) | (with_reducible refine below_drewN ?_ _) | (with_reducible refine Below.drew ?_) | (with_reducible refine Below.alloc ?_ ?_ _) | (with_reducible refine Below.setCell ?_ ?_ _) | (refine Below.trans ?_ (Below.mono (by assumption) ?_)) | go_size)))
      have OA := hid oa
      have HB6 := hid hB6
      clear oa hb6 hB6
      go_wp2_with fail
      have hc := HKC.out Aa ca v6 (Row.of_ownS OA.out)
      rw [KQ.out] at hc
      refine hc.mono ?_
      rintro e v7 ⟨rfl, hb7⟩
      have HBX := hid (Below.step' (Below.step' HBW.out HB6.out) hb7)
      clear hb7 hc
      go_wp2
      go_ret
      exact ⟨rfl, HBX.out⟩
    · subst qD
      obtain ⟨z1, z2, z3, z4⟩ := HL3.out (by first | rfl | trivial)
      subst z1
      have K2L := (tab_small z2).2
      have hk2 : K2.length ≤ 400 := by have := HLK.out; omega
      have hlk := HLK.out
      have hwr : IntKind.i64.wrap ((KT.length : Int) - 1) = (KT.length : Int) - 1 := by
        have h1 : (-9223372036854775808 : Int) ≤ (KT.length : Int) - 1 := by omega
        have h2 : (KT.length : Int) - 1 ≤ 9223372036854775807 := by omega
        exact IntWalk.i64_in _ (by omega)
      clear hlk
      have hbe : ((K2.length : Int) == (KT.length : Int) - 1) = true := by rw [beq_iff_eq]; omega
      have KC2 := hid (fun A2 c2 (w1 : World) (h : Row w1 w1.heap.size A2 (icells K2)) => show Calls Try.prog 60 #[.slice A2 K2.length c2, .int .i64 key] w1 (fun e w' => e = .returned (.bool false) ∧ Below w1.heap.size w1 w') from by rw [← z3]; exact HKC2.out z4 A2 c2 w1 h)
      have JK := hid (HK2.out K2L)
      have HWR := hid hwr
      have HBE := hid hbe
      clear z2 z3 z4 hwr hbe hk2 K2L
      -- STOP2
      obtain ⟨cHXT, fHXT, sHXT, nHXT⟩ := HXT.out.all
      try simp only [cbox] at cHXT
      go_wp2_with fail
      refine (HM2.out _ _ _ _ _ _ _ _ _ (HR2.out.alloc _) (HS2.out.alloc _) (HR5.out.alloc _) (HS5.out.alloc _)).mono ?_
      rintro e v6 ⟨A6, k6, B6, m6, rfl, hr6, hs6, hb6, -, -⟩
      simp only [tval] at hr6 hs6 ⊢
      clear cHXT fHXT sHXT nHXT
      have hB6 : Below v5.heap.size v5 v6 := (by refine Below.step' ?_ hb6; (repeat' (first | (with_reducible exact Below.refl _ _) | (with_reducible assumption) | (with_reducible refine below_drewN ?_ _) | (with_reducible refine Below.drew ?_) | (with_reducible refine Below.alloc ?_ ?_ _) | (with_reducible refine Below.setCell ?_ ?_ _) | (refine Below.trans ?_ (Below.mono (by assumption) ?_)) | go_size)))
      replace HXT := hid (HXT.out.step hB6)
      replace HR2 := hid (HR2.out.step hB6)
      replace HS2 := hid (HS2.out.step hB6)
      replace HBW := hid (Below.step' HBW.out hB6)
      have HS6 := hid hs6
      clear hr6 hs6 hb6 hB6
      go_upto_region 15 with fail
      have hB7 : Below v6.heap.size v6 (v6.alloc (.cells #[.int .i64 y0, .int .i64 y1, .int .i64 y2, .int .i64 y3, .slice A6 yl.length k6, .slice B6 ys.length m6] 59)) := (Below.refl _ _).alloc (Nat.le_refl _) _
      have HXY := hid (Blk.new v6 #[.int .i64 y0, .int .i64 y1, .int .i64 y2, .int .i64 y3, .slice A6 yl.length k6, .slice B6 ys.length m6] 59)
      replace HXT := hid (HXT.out.step hB7)
      replace HR2 := hid (HR2.out.step hB7)
      replace HS2 := hid (HS2.out.step hB7)
      replace HS6 := hid (HS6.out.step hB7)
      replace HBW := hid (Below.step' HBW.out hB7)
      obtain ⟨Z, hZ⟩ : ∃ W : World, W = v6.alloc (.cells #[.int .i64 y0, .int .i64 y1, .int .i64 y2, .int .i64 y3, .slice A6 yl.length k6, .slice B6 ys.length m6] 59) := ⟨_, rfl⟩
      rw [← hZ] at HXT HXY HR2 HS2 HS6 HBW ⊢
      clear hZ hB7
      have JKX := hid (fun w1 (hb : Below Z.heap.size Z w1) => JK.out A6 k6 B6 m6 w1 (HS6.out.step hb))
      have JKT := hid (fun w1 (hb : Below Z.heap.size Z w1) => HKT.out A2 k2 B2 m2 w1 (HS2.out.step hb))
      -- STOP3
      have hwr := HWR.out
      have hbe := HBE.out
      obtain ⟨cHXT, fHXT, sHXT, nHXT⟩ := HXT.out.all
      try simp only [cbox] at cHXT
      obtain ⟨cHXY, fHXY, sHXY, nHXY⟩ := HXY.out.all
      try simp only [cbox] at cHXY
      first
      | go_region_held3 (fun w' => (∀ b o, b < Z.heap.size → w'.cell? ⟨b, o, none⟩ = Z.cell? ⟨b, o, none⟩) ∧ Below Z.heap.size Z w')
          ((go_split_ands; refine keepS ?_; first | (with_reducible assumption) | (with_reducible exact (Below.refl _ _).drew)))
          (first
            | (go_split_ands; go_at_call 52; (with_reducible refine (JKX.out _ (by with_reducible assumption)).mono ?_); rintro e wn ⟨va, rfl, oa, hbn⟩; obtain ⟨Ava, cva, rfl⟩ := own_formS oa; have hBn := Below.step' (by with_reducible assumption : Below Z.heap.size Z _) hbn)
            | (go_split_ands; go_at_call 52; (with_reducible refine (JKT.out _ (by with_reducible assumption)).mono ?_); rintro e wn ⟨vb, rfl, ob, hbn⟩; obtain ⟨Avb, cvb, rfl⟩ := own_formS ob; have hBn := Below.step' (by with_reducible assumption : Below Z.heap.size Z _) hbn)
            | (go_split_ands; go_at_call 60; (with_reducible refine (KC2.out _ _ _ (Row.of_ownS oa)).mono ?_); rintro e wn ⟨rfl, hbn⟩; have hBn := Below.step' (by with_reducible assumption : Below Z.heap.size Z _) hbn))
      | fail "region 15"
      go_wp2
      go_ret
      exact ⟨rfl, Below.step' HBW.out (by with_reducible assumption)⟩
  · subst qP
    obtain ⟨hla, hlb⟩ := HL1.out (by first | rfl | trivial)
    have HLA := hid hla
    have HLB := hid hlb
    clear hla hlb HL1
    obtain ⟨cHXT, fHXT, sHXT, nHXT⟩ := HXT.out.all
    try simp only [cbox] at cHXT
    go_wp2_with fail
    refine (HM1.out _ _ _ _ _ _ _ _ _ (HR2.out.alloc _) (HS2.out.alloc _) (HR3.out.alloc _) (HS3.out.alloc _)).mono ?_
    rintro e w4 ⟨A4, k4, B4, m4, rfl, hr4, hs4, hb4, -, -⟩
    simp only [tval] at hr4 hs4 ⊢
    clear cHXT fHXT sHXT nHXT
    have hB4 : Below w3.heap.size w3 w4 := (by refine Below.step' ?_ hb4; (repeat' (first | (with_reducible exact Below.refl _ _) | (with_reducible assumption) | (with_reducible refine below_drewN ?_ _) | (with_reducible refine Below.drew ?_) | (with_reducible refine Below.alloc ?_ ?_ _) | (with_reducible refine Below.setCell ?_ ?_ _) | (refine Below.trans ?_ (Below.mono (by assumption) ?_)) | go_size)))
    replace HXT := hid (HXT.out.step hB4)
    replace HR2 := hid (HR2.out.step hB4)
    replace HS2 := hid (HS2.out.step hB4)
    replace HBW := hid (Below.step' HBW.out hB4)
    have HR4 := hid hr4
    have HS4 := hid hs4
    clear hr4 hs4 hb4 hB4 HM1 HR3 HS3
    by_cases q1 : E1 = 0
    rotate_left
    · have e2 := HLA.out q1
      have t1 : (E1 != 0) = true := by simpa using q1
      have t2 : (E1 == 2) = true := by simpa using e2
      clear e2 q1
      go_wp2
      go_ret
      exact ⟨rfl, HBW.out.alloc HBW.out.size _⟩
    · subst q1
      obtain ⟨hx1, hv1, hvo⟩ := HLB.out (by first | rfl | trivial)
      have KV1 := hid (HV1.out (tab_small hx1).2)
      have KVO := hid (HVO.out (tab_small hx1).2)
      have HV1E := hid hv1
      have HVOE := hid hvo
      clear hx1 hv1 hvo HLA HLB HV1 HVO
      go_upto_region 9 with fail
      have hB4 : Below w4.heap.size w4 (w4.alloc (.cells #[.int .i64 x0, .int .i64 x1, .int .i64 x2, .int .i64 x3, .slice A4 xl.length k4, .slice B4 xs.length m4] 59)) := (Below.refl _ _).alloc (Nat.le_refl _) _
      have HXX := hid (Blk.new w4 #[.int .i64 x0, .int .i64 x1, .int .i64 x2, .int .i64 x3, .slice A4 xl.length k4, .slice B4 xs.length m4] 59)
      replace HXT := hid (HXT.out.step hB4)
      replace HR2 := hid (HR2.out.step hB4)
      replace HS2 := hid (HS2.out.step hB4)
      replace HR4 := hid (HR4.out.step hB4)
      replace HS4 := hid (HS4.out.step hB4)
      replace HBW := hid (Below.step' HBW.out hB4)
      obtain ⟨W, hW⟩ : ∃ W : World, W = w4.alloc (.cells #[.int .i64 x0, .int .i64 x1, .int .i64 x2, .int .i64 x3, .slice A4 xl.length k4, .slice B4 xs.length m4] 59) := ⟨_, rfl⟩
      rw [← hW] at HXT HXX HR2 HS2 HR4 HS4 HBW ⊢
      clear hW hB4
      have JV1 := hid (fun w1 (hb : Below W.heap.size W w1) => KV1.out A4 k4 B4 m4 w1 (HS4.out.step hb))
      have JVO := hid (fun w1 (hb : Below W.heap.size W w1) => KVO.out A4 k4 B4 m4 w1 (HS4.out.step hb))
      have JVT := hid (fun w1 (hb : Below W.heap.size W w1) => HVT.out A2 k2 B2 m2 w1 (HS2.out.step hb))
      clear KV1 KVO
      obtain ⟨cHXT, fHXT, sHXT, nHXT⟩ := HXT.out.all
      try simp only [cbox] at cHXT
      obtain ⟨cHXX, fHXX, sHXX, nHXX⟩ := HXX.out.all
      try simp only [cbox] at cHXX
      by_cases qo : other = col
      · have t1 : (other != col) = false := by simpa using qo
        clear qo
        go_cut [70] from 46 to 70 (fun s70 wx => s70 = .bool false ∧ Below W.heap.size W wx)
        case first =>
          refine wp_region_held_drew (S := fun w' => (∀ b o, b < W.heap.size → w'.cell? ⟨b, o, none⟩ = W.cell? ⟨b, o, none⟩) ∧ Below W.heap.size W w') (by kernel_rfl) ?_ (fun hHeld => ?_)
          · try dsimp only
            (go_split_ands; refine keepS ?_; first | (with_reducible assumption) | (with_reducible exact (Below.refl _ _).drew) | (with_reducible exact (alloc_below (Below.refl _ _) _).drew) | (with_reducible refine alloc_below ?_ _; with_reducible assumption) | (with_reducible refine Below.drew (alloc_below ?_ _); with_reducible assumption))
          refine wpAnyH_take (i := 0) (oi := _) (v := ?_) rfl (by kernel_rfl) (by kernel_rfl) (by kernel_rfl) (fun _ _ _ h => h) (Or.inl ⟨by rfl, ?_⟩) (by assumption) ?_
          rotate_left 1
          · (intro w hSw; (try dsimp only at hSw); (try go_simp); (try with_reducible rfl))
          try simp only [Act.put, List.getElem_toArray, List.getElem_cons_succ, List.getElem_cons_zero, List.setIfInBounds_toArray, List.set_cons_zero, List.set_cons_succ]
          refine wpAnyH_take (i := 1) (oi := _) (v := ?_) rfl (by kernel_rfl) (by kernel_rfl) (by kernel_rfl) (fun _ _ _ h => h) (Or.inl ⟨by rfl, ?_⟩) (by assumption) ?_
          rotate_left 1
          · (intro w hSw; (try dsimp only at hSw); (try go_simp); (try with_reducible rfl))
          try simp only [Act.put, List.getElem_toArray, List.getElem_cons_succ, List.getElem_cons_zero, List.setIfInBounds_toArray, List.set_cons_zero, List.set_cons_succ]
          refine wpAnyH_take (i := 2) (oi := _) (v := ?_) rfl (by kernel_rfl) (by kernel_rfl) (by kernel_rfl) (fun _ _ _ h => h) (Or.inl ⟨by rfl, ?_⟩) (by assumption) ?_
          rotate_left 1
          · (intro w hSw; (try dsimp only at hSw); (try go_simp); (try with_reducible rfl))
          try simp only [Act.put, List.getElem_toArray, List.getElem_cons_succ, List.getElem_cons_zero, List.setIfInBounds_toArray, List.set_cons_zero, List.set_cons_succ]
          refine wpAnyH_take (i := 4) (oi := _) (v := ?_) rfl (by kernel_rfl) (by kernel_rfl) (by kernel_rfl) (fun _ _ _ h => h) (Or.inl ⟨by rfl, ?_⟩) (by assumption) ?_
          rotate_left 1
          · (intro w hSw; (try dsimp only at hSw); (try go_simp); (try with_reducible rfl))
          try simp only [Act.put, List.getElem_toArray, List.getElem_cons_succ, List.getElem_cons_zero, List.setIfInBounds_toArray, List.set_cons_zero, List.set_cons_succ]
          refine wpAnyH_ready (rs := [3, 5]) (by kernel_rfl) (by simp) ?_
          refine AllReadyH.cons (o := _) rfl (fun K hK => ?_) ?_
          · go_simp
            first
              | (go_split_ands; go_at_call 50; (with_reducible refine (JV1.out _ (by with_reducible assumption)).mono ?_); rintro e wn ⟨va, rfl, oa, hbn⟩; obtain ⟨Ava, cva, rfl⟩ := own_formS oa; have hBn := Below.step' (by with_reducible assumption : Below W.heap.size W _) hbn; (try first | have hlit := Blk.step (show Blk (World.drew (W.alloc (.cells #[.int .i64 val] 3))) W.heap.size #[.int .i64 val] 3 from Blk.new W #[.int .i64 val] 3) hbn | have hlit := Blk.step (show Blk (W.drew.alloc (.cells #[.int .i64 val] 3)) W.heap.size #[.int .i64 val] 3 from Blk.new W.drew #[.int .i64 val] 3) hbn))
            try go_wp2_with fail
            refine hK.out _ _ ?_ (fun hHeld => ?_)
            · try dsimp only
              (go_split_ands; refine keepS ?_; first | (with_reducible assumption) | (with_reducible exact (Below.refl _ _).drew) | (with_reducible exact (alloc_below (Below.refl _ _) _).drew) | (with_reducible refine alloc_below ?_ _; with_reducible assumption) | (with_reducible refine Below.drew (alloc_below ?_ _); with_reducible assumption))
            clear hK K
            try simp only [Act.put, List.getElem_toArray, List.getElem_cons_succ, List.getElem_cons_zero, List.setIfInBounds_toArray, List.set_cons_zero, List.set_cons_succ]
            refine wpAnyH_ready (rs := [5]) (by kernel_rfl) (by simp) ?_
            refine AllReadyH.cons (o := _) rfl (fun K hK => ?_) ?_
            · go_simp
              refine hK.out _ _ ?_ (fun hHeld => ?_)
              · try dsimp only
                (go_split_ands; refine keepS ?_; first | (with_reducible assumption) | (with_reducible exact (Below.refl _ _).drew) | (with_reducible exact (alloc_below (Below.refl _ _) _).drew) | (with_reducible refine alloc_below ?_ _; with_reducible assumption) | (with_reducible refine Below.drew (alloc_below ?_ _); with_reducible assumption))
              clear hK K
              try simp only [Act.put, List.getElem_toArray, List.getElem_cons_succ, List.getElem_cons_zero, List.setIfInBounds_toArray, List.set_cons_zero, List.set_cons_succ]
              refine wpAnyH_ready (rs := [6]) (by kernel_rfl) (by simp) ?_
              refine AllReadyH.cons (o := _) rfl (fun K hK => ?_) ?_
              · go_simp
                first
                  | (go_split_ands; go_at_call 49; (with_reducible refine (equalI_lit HV1E.out oa hlit).mono ?_); rintro e wn ⟨rfl, hbn⟩; have hBn := Below.step' (by with_reducible assumption : Below W.heap.size W _) hbn)
                  | (go_split_ands; go_at_call 49; (with_reducible refine (equalI_lit HV1E.out (World.ownsRow.alloc oa _) (Blk.new _ _ _)).mono ?_); rintro e wn ⟨rfl, hbn⟩; have hBn := Below.step' (by with_reducible assumption : Below W.heap.size W _) hbn)
                try go_wp2_with fail
                refine hK.out _ _ ?_ (fun hHeld => ?_)
                · try dsimp only
                  (go_split_ands; refine keepS ?_; first | (with_reducible assumption) | (with_reducible exact (Below.refl _ _).drew) | (with_reducible exact (alloc_below (Below.refl _ _) _).drew) | (with_reducible refine alloc_below ?_ _; with_reducible assumption) | (with_reducible refine Below.drew (alloc_below ?_ _); with_reducible assumption))
                clear hK K
                try simp only [Act.put, List.getElem_toArray, List.getElem_cons_succ, List.getElem_cons_zero, List.setIfInBounds_toArray, List.set_cons_zero, List.set_cons_succ]
                refine wpAnyH_take (i := 7) (oi := _) (v := ?_) rfl (by kernel_rfl) (by kernel_rfl) (by kernel_rfl) (fun _ _ _ h => h) (Or.inl ⟨by rfl, ?_⟩) (by assumption) ?_
                rotate_left 1
                · (intro w hSw; (try dsimp only at hSw); (try go_simp); (try with_reducible rfl))
                try simp only [Act.put, List.getElem_toArray, List.getElem_cons_succ, List.getElem_cons_zero, List.setIfInBounds_toArray, List.set_cons_zero, List.set_cons_succ]
                refine wpAnyH_take (i := 8) (oi := _) (v := ?_) rfl (by kernel_rfl) (by kernel_rfl) (by kernel_rfl) (fun _ _ _ h => h) (Or.inl ⟨by rfl, ?_⟩) (by assumption) ?_
                rotate_left 1
                · (intro w hSw; (try dsimp only at hSw); (try go_simp); (try with_reducible rfl))
                try simp only [Act.put, List.getElem_toArray, List.getElem_cons_succ, List.getElem_cons_zero, List.setIfInBounds_toArray, List.set_cons_zero, List.set_cons_succ]
                refine wpAnyH_take (i := 9) (oi := _) (v := ?_) rfl (by kernel_rfl) (by kernel_rfl) (by kernel_rfl) (fun _ _ _ h => h) (Or.inl ⟨by rfl, ?_⟩) (by assumption) ?_
                rotate_left 1
                · (intro w hSw; (try dsimp only at hSw); (try go_simp); (try with_reducible rfl))
                try simp only [Act.put, List.getElem_toArray, List.getElem_cons_succ, List.getElem_cons_zero, List.setIfInBounds_toArray, List.set_cons_zero, List.set_cons_succ]
                refine wpAnyH_take (i := 10) (oi := _) (v := ?_) rfl (by kernel_rfl) (by kernel_rfl) (by kernel_rfl) (fun _ _ _ h => h) (Or.inl ⟨by rfl, ?_⟩) (by assumption) ?_
                rotate_left 1
                · (intro w hSw; (try dsimp only at hSw); (try go_simp); (try with_reducible rfl))
                try simp only [Act.put, List.getElem_toArray, List.getElem_cons_succ, List.getElem_cons_zero, List.setIfInBounds_toArray, List.set_cons_zero, List.set_cons_succ]
                refine wpAnyH_take (i := 11) (oi := _) (v := ?_) rfl (by kernel_rfl) (by kernel_rfl) (by kernel_rfl) (fun _ _ _ h => h) (Or.inl ⟨by rfl, ?_⟩) (by assumption) ?_
                rotate_left 1
                · (intro w hSw; (try dsimp only at hSw); (try go_simp); (try with_reducible rfl))
                try simp only [Act.put, List.getElem_toArray, List.getElem_cons_succ, List.getElem_cons_zero, List.setIfInBounds_toArray, List.set_cons_zero, List.set_cons_succ]
                refine wpAnyH_take (i := 12) (oi := _) (v := ?_) rfl (by kernel_rfl) (by kernel_rfl) (by kernel_rfl) (fun _ _ _ h => h) (Or.inl ⟨by rfl, ?_⟩) (by assumption) ?_
                rotate_left 1
                · (intro w hSw; (try dsimp only at hSw); (try go_simp); (try with_reducible rfl))
                try simp only [Act.put, List.getElem_toArray, List.getElem_cons_succ, List.getElem_cons_zero, List.setIfInBounds_toArray, List.set_cons_zero, List.set_cons_succ]
                refine wpAnyH_take (i := 13) (oi := _) (v := undef) rfl (by kernel_rfl) (by kernel_rfl) (by kernel_rfl) (fun _ _ _ h => h) (Or.inr ⟨by kernel_rfl, rfl⟩) (by assumption) ?_
                try simp only [Act.put, List.getElem_toArray, List.getElem_cons_succ, List.getElem_cons_zero, List.setIfInBounds_toArray, List.set_cons_zero, List.set_cons_succ]
                refine wpAnyH_take (i := 14) (oi := _) (v := undef) rfl (by kernel_rfl) (by kernel_rfl) (by kernel_rfl) (fun _ _ _ h => h) (Or.inr ⟨by kernel_rfl, rfl⟩) (by assumption) ?_
                try simp only [Act.put, List.getElem_toArray, List.getElem_cons_succ, List.getElem_cons_zero, List.setIfInBounds_toArray, List.set_cons_zero, List.set_cons_succ]
                refine wpAnyH_take (i := 15) (oi := _) (v := undef) rfl (by kernel_rfl) (by kernel_rfl) (by kernel_rfl) (fun _ _ _ h => h) (Or.inr ⟨by kernel_rfl, rfl⟩) (by assumption) ?_
                try simp only [Act.put, List.getElem_toArray, List.getElem_cons_succ, List.getElem_cons_zero, List.setIfInBounds_toArray, List.set_cons_zero, List.set_cons_succ]
                refine wpAnyH_take (i := 16) (oi := _) (v := undef) rfl (by kernel_rfl) (by kernel_rfl) (by kernel_rfl) (fun _ _ _ h => h) (Or.inr ⟨by kernel_rfl, rfl⟩) (by assumption) ?_
                try simp only [Act.put, List.getElem_toArray, List.getElem_cons_succ, List.getElem_cons_zero, List.setIfInBounds_toArray, List.set_cons_zero, List.set_cons_succ]
                refine wpAnyH_take (i := 17) (oi := _) (v := undef) rfl (by kernel_rfl) (by kernel_rfl) (by kernel_rfl) (fun _ _ _ h => h) (Or.inr ⟨by kernel_rfl, rfl⟩) (by assumption) ?_
                try simp only [Act.put, List.getElem_toArray, List.getElem_cons_succ, List.getElem_cons_zero, List.setIfInBounds_toArray, List.set_cons_zero, List.set_cons_succ]
                refine wpAnyH_take (i := 18) (oi := _) (v := undef) rfl (by kernel_rfl) (by kernel_rfl) (by kernel_rfl) (fun _ _ _ h => h) (Or.inr ⟨by kernel_rfl, rfl⟩) (by assumption) ?_
                try simp only [Act.put, List.getElem_toArray, List.getElem_cons_succ, List.getElem_cons_zero, List.setIfInBounds_toArray, List.set_cons_zero, List.set_cons_succ]
                refine wpAnyH_take (i := 19) (oi := _) (v := undef) rfl (by kernel_rfl) (by kernel_rfl) (by kernel_rfl) (fun _ _ _ h => h) (Or.inr ⟨by kernel_rfl, rfl⟩) (by assumption) ?_
                try simp only [Act.put, List.getElem_toArray, List.getElem_cons_succ, List.getElem_cons_zero, List.setIfInBounds_toArray, List.set_cons_zero, List.set_cons_succ]
                refine wpAnyH_take (i := 20) (oi := _) (v := undef) rfl (by kernel_rfl) (by kernel_rfl) (by kernel_rfl) (fun _ _ _ h => h) (Or.inr ⟨by kernel_rfl, rfl⟩) (by assumption) ?_
                try simp only [Act.put, List.getElem_toArray, List.getElem_cons_succ, List.getElem_cons_zero, List.setIfInBounds_toArray, List.set_cons_zero, List.set_cons_succ]
                refine wpAnyH_take (i := 21) (oi := _) (v := undef) rfl (by kernel_rfl) (by kernel_rfl) (by kernel_rfl) (fun _ _ _ h => h) (Or.inr ⟨by kernel_rfl, rfl⟩) (by assumption) ?_
                try simp only [Act.put, List.getElem_toArray, List.getElem_cons_succ, List.getElem_cons_zero, List.setIfInBounds_toArray, List.set_cons_zero, List.set_cons_succ]
                refine wpAnyH_take (i := 22) (oi := _) (v := undef) rfl (by kernel_rfl) (by kernel_rfl) (by kernel_rfl) (fun _ _ _ h => h) (Or.inr ⟨by kernel_rfl, rfl⟩) (by assumption) ?_
                try simp only [Act.put, List.getElem_toArray, List.getElem_cons_succ, List.getElem_cons_zero, List.setIfInBounds_toArray, List.set_cons_zero, List.set_cons_succ]
                refine wpAnyH_take (i := 23) (oi := _) (v := .bool false) rfl (by kernel_rfl) (by kernel_rfl) (by kernel_rfl) (fun _ _ _ h => h) (Or.inl ⟨by kernel_rfl, fun w _ => by kernel_rfl⟩) (by assumption) ?_
                try simp only [Act.put, List.getElem_toArray, List.getElem_cons_succ, List.getElem_cons_zero, List.setIfInBounds_toArray, List.set_cons_zero, List.set_cons_succ]
                refine wpAnyH_take (i := 24) (oi := _) (v := .bool false) rfl (by kernel_rfl) (by kernel_rfl) (by kernel_rfl) (fun _ _ _ h => h) (Or.inl ⟨by kernel_rfl, fun w _ => by kernel_rfl⟩) (by assumption) ?_
                try simp only [Act.put, List.getElem_toArray, List.getElem_cons_succ, List.getElem_cons_zero, List.setIfInBounds_toArray, List.set_cons_zero, List.set_cons_succ]
                refine wpAnyH_done (by kernel_rfl) ?_ _
                go_wp2
                go_meet
                case rel => exact ⟨rfl, by with_reducible assumption⟩
              exact AllReadyH.nil
            exact AllReadyH.nil
          refine AllReadyH.cons (o := _) rfl (fun K hK => ?_) ?_
          · go_simp
            refine hK.out _ _ ?_ (fun hHeld => ?_)
            · try dsimp only
              (go_split_ands; refine keepS ?_; first | (with_reducible assumption) | (with_reducible exact (Below.refl _ _).drew) | (with_reducible exact (alloc_below (Below.refl _ _) _).drew) | (with_reducible refine alloc_below ?_ _; with_reducible assumption) | (with_reducible refine Below.drew (alloc_below ?_ _); with_reducible assumption))
            clear hK K
            try simp only [Act.put, List.getElem_toArray, List.getElem_cons_succ, List.getElem_cons_zero, List.setIfInBounds_toArray, List.set_cons_zero, List.set_cons_succ]
            refine wpAnyH_ready (rs := [3]) (by kernel_rfl) (by simp) ?_
            refine AllReadyH.cons (o := _) rfl (fun K hK => ?_) ?_
            · go_simp
              first
                | (go_split_ands; go_at_call 50; (with_reducible refine (JV1.out _ (by with_reducible assumption)).mono ?_); rintro e wn ⟨va, rfl, oa, hbn⟩; obtain ⟨Ava, cva, rfl⟩ := own_formS oa; have hBn := Below.step' (by with_reducible assumption : Below W.heap.size W _) hbn; (try first | have hlit := Blk.step (show Blk (World.drew (W.alloc (.cells #[.int .i64 val] 3))) W.heap.size #[.int .i64 val] 3 from Blk.new W #[.int .i64 val] 3) hbn | have hlit := Blk.step (show Blk (W.drew.alloc (.cells #[.int .i64 val] 3)) W.heap.size #[.int .i64 val] 3 from Blk.new W.drew #[.int .i64 val] 3) hbn))
              try go_wp2_with fail
              refine hK.out _ _ ?_ (fun hHeld => ?_)
              · try dsimp only
                (go_split_ands; refine keepS ?_; first | (with_reducible assumption) | (with_reducible exact (Below.refl _ _).drew) | (with_reducible exact (alloc_below (Below.refl _ _) _).drew) | (with_reducible refine alloc_below ?_ _; with_reducible assumption) | (with_reducible refine Below.drew (alloc_below ?_ _); with_reducible assumption))
              clear hK K
              try simp only [Act.put, List.getElem_toArray, List.getElem_cons_succ, List.getElem_cons_zero, List.setIfInBounds_toArray, List.set_cons_zero, List.set_cons_succ]
              refine wpAnyH_ready (rs := [6]) (by kernel_rfl) (by simp) ?_
              refine AllReadyH.cons (o := _) rfl (fun K hK => ?_) ?_
              · go_simp
                first
                  | (go_split_ands; go_at_call 49; (with_reducible refine (equalI_lit HV1E.out oa hlit).mono ?_); rintro e wn ⟨rfl, hbn⟩; have hBn := Below.step' (by with_reducible assumption : Below W.heap.size W _) hbn)
                  | (go_split_ands; go_at_call 49; (with_reducible refine (equalI_lit HV1E.out (World.ownsRow.alloc oa _) (Blk.new _ _ _)).mono ?_); rintro e wn ⟨rfl, hbn⟩; have hBn := Below.step' (by with_reducible assumption : Below W.heap.size W _) hbn)
                try go_wp2_with fail
                refine hK.out _ _ ?_ (fun hHeld => ?_)
                · try dsimp only
                  (go_split_ands; refine keepS ?_; first | (with_reducible assumption) | (with_reducible exact (Below.refl _ _).drew) | (with_reducible exact (alloc_below (Below.refl _ _) _).drew) | (with_reducible refine alloc_below ?_ _; with_reducible assumption) | (with_reducible refine Below.drew (alloc_below ?_ _); with_reducible assumption))
                clear hK K
                try simp only [Act.put, List.getElem_toArray, List.getElem_cons_succ, List.getElem_cons_zero, List.setIfInBounds_toArray, List.set_cons_zero, List.set_cons_succ]
                refine wpAnyH_take (i := 7) (oi := _) (v := ?_) rfl (by kernel_rfl) (by kernel_rfl) (by kernel_rfl) (fun _ _ _ h => h) (Or.inl ⟨by rfl, ?_⟩) (by assumption) ?_
                rotate_left 1
                · (intro w hSw; (try dsimp only at hSw); (try go_simp); (try with_reducible rfl))
                try simp only [Act.put, List.getElem_toArray, List.getElem_cons_succ, List.getElem_cons_zero, List.setIfInBounds_toArray, List.set_cons_zero, List.set_cons_succ]
                refine wpAnyH_take (i := 8) (oi := _) (v := ?_) rfl (by kernel_rfl) (by kernel_rfl) (by kernel_rfl) (fun _ _ _ h => h) (Or.inl ⟨by rfl, ?_⟩) (by assumption) ?_
                rotate_left 1
                · (intro w hSw; (try dsimp only at hSw); (try go_simp); (try with_reducible rfl))
                try simp only [Act.put, List.getElem_toArray, List.getElem_cons_succ, List.getElem_cons_zero, List.setIfInBounds_toArray, List.set_cons_zero, List.set_cons_succ]
                refine wpAnyH_take (i := 9) (oi := _) (v := ?_) rfl (by kernel_rfl) (by kernel_rfl) (by kernel_rfl) (fun _ _ _ h => h) (Or.inl ⟨by rfl, ?_⟩) (by assumption) ?_
                rotate_left 1
                · (intro w hSw; (try dsimp only at hSw); (try go_simp); (try with_reducible rfl))
                try simp only [Act.put, List.getElem_toArray, List.getElem_cons_succ, List.getElem_cons_zero, List.setIfInBounds_toArray, List.set_cons_zero, List.set_cons_succ]
                refine wpAnyH_take (i := 10) (oi := _) (v := ?_) rfl (by kernel_rfl) (by kernel_rfl) (by kernel_rfl) (fun _ _ _ h => h) (Or.inl ⟨by rfl, ?_⟩) (by assumption) ?_
                rotate_left 1
                · (intro w hSw; (try dsimp only at hSw); (try go_simp); (try with_reducible rfl))
                try simp only [Act.put, List.getElem_toArray, List.getElem_cons_succ, List.getElem_cons_zero, List.setIfInBounds_toArray, List.set_cons_zero, List.set_cons_succ]
                refine wpAnyH_take (i := 11) (oi := _) (v := ?_) rfl (by kernel_rfl) (by kernel_rfl) (by kernel_rfl) (fun _ _ _ h => h) (Or.inl ⟨by rfl, ?_⟩) (by assumption) ?_
                rotate_left 1
                · (intro w hSw; (try dsimp only at hSw); (try go_simp); (try with_reducible rfl))
                try simp only [Act.put, List.getElem_toArray, List.getElem_cons_succ, List.getElem_cons_zero, List.setIfInBounds_toArray, List.set_cons_zero, List.set_cons_succ]
                refine wpAnyH_take (i := 12) (oi := _) (v := ?_) rfl (by kernel_rfl) (by kernel_rfl) (by kernel_rfl) (fun _ _ _ h => h) (Or.inl ⟨by rfl, ?_⟩) (by assumption) ?_
                rotate_left 1
                · (intro w hSw; (try dsimp only at hSw); (try go_simp); (try with_reducible rfl))
                try simp only [Act.put, List.getElem_toArray, List.getElem_cons_succ, List.getElem_cons_zero, List.setIfInBounds_toArray, List.set_cons_zero, List.set_cons_succ]
                refine wpAnyH_take (i := 13) (oi := _) (v := undef) rfl (by kernel_rfl) (by kernel_rfl) (by kernel_rfl) (fun _ _ _ h => h) (Or.inr ⟨by kernel_rfl, rfl⟩) (by assumption) ?_
                try simp only [Act.put, List.getElem_toArray, List.getElem_cons_succ, List.getElem_cons_zero, List.setIfInBounds_toArray, List.set_cons_zero, List.set_cons_succ]
                refine wpAnyH_take (i := 14) (oi := _) (v := undef) rfl (by kernel_rfl) (by kernel_rfl) (by kernel_rfl) (fun _ _ _ h => h) (Or.inr ⟨by kernel_rfl, rfl⟩) (by assumption) ?_
                try simp only [Act.put, List.getElem_toArray, List.getElem_cons_succ, List.getElem_cons_zero, List.setIfInBounds_toArray, List.set_cons_zero, List.set_cons_succ]
                refine wpAnyH_take (i := 15) (oi := _) (v := undef) rfl (by kernel_rfl) (by kernel_rfl) (by kernel_rfl) (fun _ _ _ h => h) (Or.inr ⟨by kernel_rfl, rfl⟩) (by assumption) ?_
                try simp only [Act.put, List.getElem_toArray, List.getElem_cons_succ, List.getElem_cons_zero, List.setIfInBounds_toArray, List.set_cons_zero, List.set_cons_succ]
                refine wpAnyH_take (i := 16) (oi := _) (v := undef) rfl (by kernel_rfl) (by kernel_rfl) (by kernel_rfl) (fun _ _ _ h => h) (Or.inr ⟨by kernel_rfl, rfl⟩) (by assumption) ?_
                try simp only [Act.put, List.getElem_toArray, List.getElem_cons_succ, List.getElem_cons_zero, List.setIfInBounds_toArray, List.set_cons_zero, List.set_cons_succ]
                refine wpAnyH_take (i := 17) (oi := _) (v := undef) rfl (by kernel_rfl) (by kernel_rfl) (by kernel_rfl) (fun _ _ _ h => h) (Or.inr ⟨by kernel_rfl, rfl⟩) (by assumption) ?_
                try simp only [Act.put, List.getElem_toArray, List.getElem_cons_succ, List.getElem_cons_zero, List.setIfInBounds_toArray, List.set_cons_zero, List.set_cons_succ]
                refine wpAnyH_take (i := 18) (oi := _) (v := undef) rfl (by kernel_rfl) (by kernel_rfl) (by kernel_rfl) (fun _ _ _ h => h) (Or.inr ⟨by kernel_rfl, rfl⟩) (by assumption) ?_
                try simp only [Act.put, List.getElem_toArray, List.getElem_cons_succ, List.getElem_cons_zero, List.setIfInBounds_toArray, List.set_cons_zero, List.set_cons_succ]
                refine wpAnyH_take (i := 19) (oi := _) (v := undef) rfl (by kernel_rfl) (by kernel_rfl) (by kernel_rfl) (fun _ _ _ h => h) (Or.inr ⟨by kernel_rfl, rfl⟩) (by assumption) ?_
                try simp only [Act.put, List.getElem_toArray, List.getElem_cons_succ, List.getElem_cons_zero, List.setIfInBounds_toArray, List.set_cons_zero, List.set_cons_succ]
                refine wpAnyH_take (i := 20) (oi := _) (v := undef) rfl (by kernel_rfl) (by kernel_rfl) (by kernel_rfl) (fun _ _ _ h => h) (Or.inr ⟨by kernel_rfl, rfl⟩) (by assumption) ?_
                try simp only [Act.put, List.getElem_toArray, List.getElem_cons_succ, List.getElem_cons_zero, List.setIfInBounds_toArray, List.set_cons_zero, List.set_cons_succ]
                refine wpAnyH_take (i := 21) (oi := _) (v := undef) rfl (by kernel_rfl) (by kernel_rfl) (by kernel_rfl) (fun _ _ _ h => h) (Or.inr ⟨by kernel_rfl, rfl⟩) (by assumption) ?_
                try simp only [Act.put, List.getElem_toArray, List.getElem_cons_succ, List.getElem_cons_zero, List.setIfInBounds_toArray, List.set_cons_zero, List.set_cons_succ]
                refine wpAnyH_take (i := 22) (oi := _) (v := undef) rfl (by kernel_rfl) (by kernel_rfl) (by kernel_rfl) (fun _ _ _ h => h) (Or.inr ⟨by kernel_rfl, rfl⟩) (by assumption) ?_
                try simp only [Act.put, List.getElem_toArray, List.getElem_cons_succ, List.getElem_cons_zero, List.setIfInBounds_toArray, List.set_cons_zero, List.set_cons_succ]
                refine wpAnyH_take (i := 23) (oi := _) (v := .bool false) rfl (by kernel_rfl) (by kernel_rfl) (by kernel_rfl) (fun _ _ _ h => h) (Or.inl ⟨by kernel_rfl, fun w _ => by kernel_rfl⟩) (by assumption) ?_
                try simp only [Act.put, List.getElem_toArray, List.getElem_cons_succ, List.getElem_cons_zero, List.setIfInBounds_toArray, List.set_cons_zero, List.set_cons_succ]
                refine wpAnyH_take (i := 24) (oi := _) (v := .bool false) rfl (by kernel_rfl) (by kernel_rfl) (by kernel_rfl) (fun _ _ _ h => h) (Or.inl ⟨by kernel_rfl, fun w _ => by kernel_rfl⟩) (by assumption) ?_
                try simp only [Act.put, List.getElem_toArray, List.getElem_cons_succ, List.getElem_cons_zero, List.setIfInBounds_toArray, List.set_cons_zero, List.set_cons_succ]
                refine wpAnyH_done (by kernel_rfl) ?_ _
                go_wp2
                go_meet
                case rel => exact ⟨rfl, by with_reducible assumption⟩
              exact AllReadyH.nil
            exact AllReadyH.nil
          exact AllReadyH.nil
        case rest =>
          clear cHXT fHXT sHXT nHXT
          clear cHXX fHXX sHXX nHXX
          obtain ⟨rfl, hb9⟩ := hcut
          obtain ⟨W5, rfl⟩ : ∃ W5 : World, W5 = wc := ⟨_, rfl⟩
          replace HXT := hid (HXT.out.step hb9)
          replace HR2 := hid (HR2.out.step hb9)
          replace HS2 := hid (HS2.out.step hb9)
          replace HBW := hid (Below.step' HBW.out hb9)
          clear hb9 HXX HR4 HS4 JV1 JVO JVT
          obtain ⟨cHXT, fHXT, sHXT, nHXT⟩ := HXT.out.all
          try simp only [cbox] at cHXT
          go_wp2_with fail
          refine (HDE.out _ _ _ _ _ HR2.out HS2.out).mono ?_
          rintro e v5 ⟨A5, k5, B5, m5, rfl, hr5, hs5, hb5, -, -⟩
          simp only [tval] at hr5 hs5 ⊢
          clear cHXT fHXT sHXT nHXT
          replace HXT := hid (HXT.out.step hb5)
          replace HR2 := hid (HR2.out.step hb5)
          replace HS2 := hid (HS2.out.step hb5)
          replace HBW := hid (Below.step' HBW.out hb5)
          have HR5 := hid hr5
          have HS5 := hid hs5
          clear hr5 hs5 hb5
          -- STOP1
          by_cases qD : DE = 0
          rotate_left
          · have t2 : (DE != 0) = true := by simpa using qD
            have KQ := hid (HL2.out qD)
            clear qD
            obtain ⟨cHXT, fHXT, sHXT, nHXT⟩ := HXT.out.all
            try simp only [cbox] at cHXT
            go_wp2_with fail
            refine (HKT.out _ _ _ _ _ (HS2.out.alloc _)).mono ?_
            rintro e v6 ⟨va, rfl, oa, hb6⟩
            obtain ⟨Aa, ca, rfl⟩ := own_formS oa
            have hB6 : Below v5.heap.size v5 v6 := (by refine Below.step' ?_ hb6; (repeat' (first | (with_reducible exact Below.refl _ _) | (with_reducible assumption) | (with_reducible refine below_drewN ?_ _) | (with_reducible refine Below.drew ?_) | (with_reducible refine Below.alloc ?_ ?_ _) | (with_reducible refine Below.setCell ?_ ?_ _) | (refine Below.trans ?_ (Below.mono (by assumption) ?_)) | go_size)))
            have OA := hid oa
            have HB6 := hid hB6
            clear oa hb6 hB6
            go_wp2_with fail
            have hc := HKC.out Aa ca v6 (Row.of_ownS OA.out)
            rw [KQ.out] at hc
            refine hc.mono ?_
            rintro e v7 ⟨rfl, hb7⟩
            have HBX := hid (Below.step' (Below.step' HBW.out HB6.out) hb7)
            clear hb7 hc
            go_wp2
            go_ret
            exact ⟨rfl, HBX.out⟩
          · subst qD
            obtain ⟨z1, z2, z3, z4⟩ := HL3.out (by first | rfl | trivial)
            subst z1
            have K2L := (tab_small z2).2
            have hk2 : K2.length ≤ 400 := by have := HLK.out; omega
            have hlk := HLK.out
            have hwr : IntKind.i64.wrap ((KT.length : Int) - 1) = (KT.length : Int) - 1 := by
              have h1 : (-9223372036854775808 : Int) ≤ (KT.length : Int) - 1 := by omega
              have h2 : (KT.length : Int) - 1 ≤ 9223372036854775807 := by omega
              exact IntWalk.i64_in _ (by omega)
            clear hlk
            have hbe : ((K2.length : Int) == (KT.length : Int) - 1) = true := by rw [beq_iff_eq]; omega
            have KC2 := hid (fun A2 c2 (w1 : World) (h : Row w1 w1.heap.size A2 (icells K2)) => show Calls Try.prog 60 #[.slice A2 K2.length c2, .int .i64 key] w1 (fun e w' => e = .returned (.bool false) ∧ Below w1.heap.size w1 w') from by rw [← z3]; exact HKC2.out z4 A2 c2 w1 h)
            have JK := hid (HK2.out K2L)
            have HWR := hid hwr
            have HBE := hid hbe
            clear z2 z3 z4 hwr hbe hk2 K2L
            -- STOP2
            obtain ⟨cHXT, fHXT, sHXT, nHXT⟩ := HXT.out.all
            try simp only [cbox] at cHXT
            go_wp2_with fail
            refine (HM2.out _ _ _ _ _ _ _ _ _ (HR2.out.alloc _) (HS2.out.alloc _) (HR5.out.alloc _) (HS5.out.alloc _)).mono ?_
            rintro e v6 ⟨A6, k6, B6, m6, rfl, hr6, hs6, hb6, -, -⟩
            simp only [tval] at hr6 hs6 ⊢
            clear cHXT fHXT sHXT nHXT
            have hB6 : Below v5.heap.size v5 v6 := (by refine Below.step' ?_ hb6; (repeat' (first | (with_reducible exact Below.refl _ _) | (with_reducible assumption) | (with_reducible refine below_drewN ?_ _) | (with_reducible refine Below.drew ?_) | (with_reducible refine Below.alloc ?_ ?_ _) | (with_reducible refine Below.setCell ?_ ?_ _) | (refine Below.trans ?_ (Below.mono (by assumption) ?_)) | go_size)))
            replace HXT := hid (HXT.out.step hB6)
            replace HR2 := hid (HR2.out.step hB6)
            replace HS2 := hid (HS2.out.step hB6)
            replace HBW := hid (Below.step' HBW.out hB6)
            have HS6 := hid hs6
            clear hr6 hs6 hb6 hB6
            go_upto_region 15 with fail
            have hB7 : Below v6.heap.size v6 (v6.alloc (.cells #[.int .i64 y0, .int .i64 y1, .int .i64 y2, .int .i64 y3, .slice A6 yl.length k6, .slice B6 ys.length m6] 59)) := (Below.refl _ _).alloc (Nat.le_refl _) _
            have HXY := hid (Blk.new v6 #[.int .i64 y0, .int .i64 y1, .int .i64 y2, .int .i64 y3, .slice A6 yl.length k6, .slice B6 ys.length m6] 59)
            replace HXT := hid (HXT.out.step hB7)
            replace HR2 := hid (HR2.out.step hB7)
            replace HS2 := hid (HS2.out.step hB7)
            replace HS6 := hid (HS6.out.step hB7)
            replace HBW := hid (Below.step' HBW.out hB7)
            obtain ⟨Z, hZ⟩ : ∃ W : World, W = v6.alloc (.cells #[.int .i64 y0, .int .i64 y1, .int .i64 y2, .int .i64 y3, .slice A6 yl.length k6, .slice B6 ys.length m6] 59) := ⟨_, rfl⟩
            rw [← hZ] at HXT HXY HR2 HS2 HS6 HBW ⊢
            clear hZ hB7
            have JKX := hid (fun w1 (hb : Below Z.heap.size Z w1) => JK.out A6 k6 B6 m6 w1 (HS6.out.step hb))
            have JKT := hid (fun w1 (hb : Below Z.heap.size Z w1) => HKT.out A2 k2 B2 m2 w1 (HS2.out.step hb))
            -- STOP3
            have hwr := HWR.out
            have hbe := HBE.out
            obtain ⟨cHXT, fHXT, sHXT, nHXT⟩ := HXT.out.all
            try simp only [cbox] at cHXT
            obtain ⟨cHXY, fHXY, sHXY, nHXY⟩ := HXY.out.all
            try simp only [cbox] at cHXY
            first
            | go_region_held3 (fun w' => (∀ b o, b < Z.heap.size → w'.cell? ⟨b, o, none⟩ = Z.cell? ⟨b, o, none⟩) ∧ Below Z.heap.size Z w')
                ((go_split_ands; refine keepS ?_; first | (with_reducible assumption) | (with_reducible exact (Below.refl _ _).drew)))
                (first
                  | (go_split_ands; go_at_call 52; (with_reducible refine (JKX.out _ (by with_reducible assumption)).mono ?_); rintro e wn ⟨va, rfl, oa, hbn⟩; obtain ⟨Ava, cva, rfl⟩ := own_formS oa; have hBn := Below.step' (by with_reducible assumption : Below Z.heap.size Z _) hbn)
                  | (go_split_ands; go_at_call 52; (with_reducible refine (JKT.out _ (by with_reducible assumption)).mono ?_); rintro e wn ⟨vb, rfl, ob, hbn⟩; obtain ⟨Avb, cvb, rfl⟩ := own_formS ob; have hBn := Below.step' (by with_reducible assumption : Below Z.heap.size Z _) hbn)
                  | (go_split_ands; go_at_call 60; (with_reducible refine (KC2.out _ _ _ (Row.of_ownS oa)).mono ?_); rintro e wn ⟨rfl, hbn⟩; have hBn := Below.step' (by with_reducible assumption : Below Z.heap.size Z _) hbn))
            | fail "region 15"
            go_wp2
            go_ret
            exact ⟨rfl, Below.step' HBW.out (by with_reducible assumption)⟩
      · have t1 : (other != col) = true := by simpa using qo
        have hvo := HVOE.out qo
        subst hvo
        have HEQ := hid (fun (A B : Option Addr) (c e b b' : Nat) (w : World) (ho : w.ownsRow b 3 1 (.slice A VO.length c) VO.length (icells VO)) (ho' : w.ownsRow b' 3 1 (.slice B VO.length e) VO.length (icells VO)) => equalI_twin VO A B c e b b' w ho ho' HLT.out)
        have HQO := hid qo
        clear qo
        go_cut [70] from 46 to 70 (fun s70 wx => s70 = .bool false ∧ Below W.heap.size W wx)
        case first =>
          go_region_held3 (fun w' => (∀ b o, b < W.heap.size → w'.cell? ⟨b, o, none⟩ = W.cell? ⟨b, o, none⟩) ∧ Below W.heap.size W w')
            ((go_split_ands; refine keepS ?_; first | (with_reducible assumption) | (with_reducible exact (Below.refl _ _).drew) | (with_reducible exact (alloc_below (Below.refl _ _) _).drew) | (with_reducible refine alloc_below ?_ _; with_reducible assumption) | (with_reducible refine Below.drew (alloc_below ?_ _); with_reducible assumption)))
                (first
                  | (go_split_ands; go_at_call 50; (with_reducible refine (JV1.out _ (by with_reducible assumption)).mono ?_); rintro e wn ⟨va, rfl, oa, hbn⟩; obtain ⟨Ava, cva, rfl⟩ := own_formS oa; have hBn := Below.step' (by with_reducible assumption : Below W.heap.size W _) hbn; (try first | have hlit := Blk.step (show Blk (World.drew (W.alloc (.cells #[.int .i64 val] 3))) W.heap.size #[.int .i64 val] 3 from Blk.new W #[.int .i64 val] 3) hbn | have hlit := Blk.step (show Blk (W.drew.alloc (.cells #[.int .i64 val] 3)) W.heap.size #[.int .i64 val] 3 from Blk.new W.drew #[.int .i64 val] 3) hbn))
                  | (go_split_ands; go_at_call 49; (with_reducible refine (equalI_lit HV1E.out oa hlit).mono ?_); rintro e wn ⟨rfl, hbn⟩; have hBn := Below.step' (by with_reducible assumption : Below W.heap.size W _) hbn)
                  | (go_split_ands; go_at_call 49; (with_reducible refine (equalI_lit HV1E.out (World.ownsRow.alloc oa _) (Blk.new _ _ _)).mono ?_); rintro e wn ⟨rfl, hbn⟩; have hBn := Below.step' (by with_reducible assumption : Below W.heap.size W _) hbn)
                  | (go_split_ands; go_at_call 50; (with_reducible refine (JVO.out _ (by with_reducible assumption)).mono ?_); rintro e wn ⟨vb, rfl, ob, hbn⟩; obtain ⟨Avb, cvb, rfl⟩ := own_formS ob; have hBn := Below.step' (by with_reducible assumption : Below W.heap.size W _) hbn)
                  | (go_split_ands; go_at_call 50; (with_reducible refine (JVT.out _ (by with_reducible assumption)).mono ?_); rintro e wn ⟨vc, rfl, oc, hbn⟩; obtain ⟨Avc, cvc, rfl⟩ := own_formS oc; have hBn := Below.step' (by with_reducible assumption : Below W.heap.size W _) hbn; replace ob := own_laterS ob hbn)
                  | (go_split_ands; go_at_call 49; (with_reducible refine (HEQ.out _ _ _ _ _ _ _ ob oc).mono ?_); rintro e wn ⟨rfl, hbn⟩; have hBn := Below.step' (by with_reducible assumption : Below W.heap.size W _) hbn))
          all_goals
            go_wp2
            go_meet
            case rel => exact ⟨rfl, by with_reducible assumption⟩
        case rest =>
          clear cHXT fHXT sHXT nHXT
          clear cHXX fHXX sHXX nHXX
          obtain ⟨rfl, hb9⟩ := hcut
          obtain ⟨W5, rfl⟩ : ∃ W5 : World, W5 = wc := ⟨_, rfl⟩
          replace HXT := hid (HXT.out.step hb9)
          replace HR2 := hid (HR2.out.step hb9)
          replace HS2 := hid (HS2.out.step hb9)
          replace HBW := hid (Below.step' HBW.out hb9)
          clear hb9 HXX HR4 HS4 JV1 JVO JVT
          obtain ⟨cHXT, fHXT, sHXT, nHXT⟩ := HXT.out.all
          try simp only [cbox] at cHXT
          go_wp2_with fail
          refine (HDE.out _ _ _ _ _ HR2.out HS2.out).mono ?_
          rintro e v5 ⟨A5, k5, B5, m5, rfl, hr5, hs5, hb5, -, -⟩
          simp only [tval] at hr5 hs5 ⊢
          clear cHXT fHXT sHXT nHXT
          replace HXT := hid (HXT.out.step hb5)
          replace HR2 := hid (HR2.out.step hb5)
          replace HS2 := hid (HS2.out.step hb5)
          replace HBW := hid (Below.step' HBW.out hb5)
          have HR5 := hid hr5
          have HS5 := hid hs5
          clear hr5 hs5 hb5
          -- STOP1
          by_cases qD : DE = 0
          rotate_left
          · have t2 : (DE != 0) = true := by simpa using qD
            have KQ := hid (HL2.out qD)
            clear qD
            obtain ⟨cHXT, fHXT, sHXT, nHXT⟩ := HXT.out.all
            try simp only [cbox] at cHXT
            go_wp2_with fail
            refine (HKT.out _ _ _ _ _ (HS2.out.alloc _)).mono ?_
            rintro e v6 ⟨va, rfl, oa, hb6⟩
            obtain ⟨Aa, ca, rfl⟩ := own_formS oa
            have hB6 : Below v5.heap.size v5 v6 := (by refine Below.step' ?_ hb6; (repeat' (first | (with_reducible exact Below.refl _ _) | (with_reducible assumption) | (with_reducible refine below_drewN ?_ _) | (with_reducible refine Below.drew ?_) | (with_reducible refine Below.alloc ?_ ?_ _) | (with_reducible refine Below.setCell ?_ ?_ _) | (refine Below.trans ?_ (Below.mono (by assumption) ?_)) | go_size)))
            have OA := hid oa
            have HB6 := hid hB6
            clear oa hb6 hB6
            go_wp2_with fail
            have hc := HKC.out Aa ca v6 (Row.of_ownS OA.out)
            rw [KQ.out] at hc
            refine hc.mono ?_
            rintro e v7 ⟨rfl, hb7⟩
            have HBX := hid (Below.step' (Below.step' HBW.out HB6.out) hb7)
            clear hb7 hc
            go_wp2
            go_ret
            exact ⟨rfl, HBX.out⟩
          · subst qD
            obtain ⟨z1, z2, z3, z4⟩ := HL3.out (by first | rfl | trivial)
            subst z1
            have K2L := (tab_small z2).2
            have hk2 : K2.length ≤ 400 := by have := HLK.out; omega
            have hlk := HLK.out
            have hwr : IntKind.i64.wrap ((KT.length : Int) - 1) = (KT.length : Int) - 1 := by
              have h1 : (-9223372036854775808 : Int) ≤ (KT.length : Int) - 1 := by omega
              have h2 : (KT.length : Int) - 1 ≤ 9223372036854775807 := by omega
              exact IntWalk.i64_in _ (by omega)
            clear hlk
            have hbe : ((K2.length : Int) == (KT.length : Int) - 1) = true := by rw [beq_iff_eq]; omega
            have KC2 := hid (fun A2 c2 (w1 : World) (h : Row w1 w1.heap.size A2 (icells K2)) => show Calls Try.prog 60 #[.slice A2 K2.length c2, .int .i64 key] w1 (fun e w' => e = .returned (.bool false) ∧ Below w1.heap.size w1 w') from by rw [← z3]; exact HKC2.out z4 A2 c2 w1 h)
            have JK := hid (HK2.out K2L)
            have HWR := hid hwr
            have HBE := hid hbe
            clear z2 z3 z4 hwr hbe hk2 K2L
            -- STOP2
            obtain ⟨cHXT, fHXT, sHXT, nHXT⟩ := HXT.out.all
            try simp only [cbox] at cHXT
            go_wp2_with fail
            refine (HM2.out _ _ _ _ _ _ _ _ _ (HR2.out.alloc _) (HS2.out.alloc _) (HR5.out.alloc _) (HS5.out.alloc _)).mono ?_
            rintro e v6 ⟨A6, k6, B6, m6, rfl, hr6, hs6, hb6, -, -⟩
            simp only [tval] at hr6 hs6 ⊢
            clear cHXT fHXT sHXT nHXT
            have hB6 : Below v5.heap.size v5 v6 := (by refine Below.step' ?_ hb6; (repeat' (first | (with_reducible exact Below.refl _ _) | (with_reducible assumption) | (with_reducible refine below_drewN ?_ _) | (with_reducible refine Below.drew ?_) | (with_reducible refine Below.alloc ?_ ?_ _) | (with_reducible refine Below.setCell ?_ ?_ _) | (refine Below.trans ?_ (Below.mono (by assumption) ?_)) | go_size)))
            replace HXT := hid (HXT.out.step hB6)
            replace HR2 := hid (HR2.out.step hB6)
            replace HS2 := hid (HS2.out.step hB6)
            replace HBW := hid (Below.step' HBW.out hB6)
            have HS6 := hid hs6
            clear hr6 hs6 hb6 hB6
            go_upto_region 15 with fail
            have hB7 : Below v6.heap.size v6 (v6.alloc (.cells #[.int .i64 y0, .int .i64 y1, .int .i64 y2, .int .i64 y3, .slice A6 yl.length k6, .slice B6 ys.length m6] 59)) := (Below.refl _ _).alloc (Nat.le_refl _) _
            have HXY := hid (Blk.new v6 #[.int .i64 y0, .int .i64 y1, .int .i64 y2, .int .i64 y3, .slice A6 yl.length k6, .slice B6 ys.length m6] 59)
            replace HXT := hid (HXT.out.step hB7)
            replace HR2 := hid (HR2.out.step hB7)
            replace HS2 := hid (HS2.out.step hB7)
            replace HS6 := hid (HS6.out.step hB7)
            replace HBW := hid (Below.step' HBW.out hB7)
            obtain ⟨Z, hZ⟩ : ∃ W : World, W = v6.alloc (.cells #[.int .i64 y0, .int .i64 y1, .int .i64 y2, .int .i64 y3, .slice A6 yl.length k6, .slice B6 ys.length m6] 59) := ⟨_, rfl⟩
            rw [← hZ] at HXT HXY HR2 HS2 HS6 HBW ⊢
            clear hZ hB7
            have JKX := hid (fun w1 (hb : Below Z.heap.size Z w1) => JK.out A6 k6 B6 m6 w1 (HS6.out.step hb))
            have JKT := hid (fun w1 (hb : Below Z.heap.size Z w1) => HKT.out A2 k2 B2 m2 w1 (HS2.out.step hb))
            -- STOP3
            have hwr := HWR.out
            have hbe := HBE.out
            obtain ⟨cHXT, fHXT, sHXT, nHXT⟩ := HXT.out.all
            try simp only [cbox] at cHXT
            obtain ⟨cHXY, fHXY, sHXY, nHXY⟩ := HXY.out.all
            try simp only [cbox] at cHXY
            first
            | go_region_held3 (fun w' => (∀ b o, b < Z.heap.size → w'.cell? ⟨b, o, none⟩ = Z.cell? ⟨b, o, none⟩) ∧ Below Z.heap.size Z w')
                ((go_split_ands; refine keepS ?_; first | (with_reducible assumption) | (with_reducible exact (Below.refl _ _).drew)))
                (first
                  | (go_split_ands; go_at_call 52; (with_reducible refine (JKX.out _ (by with_reducible assumption)).mono ?_); rintro e wn ⟨va, rfl, oa, hbn⟩; obtain ⟨Ava, cva, rfl⟩ := own_formS oa; have hBn := Below.step' (by with_reducible assumption : Below Z.heap.size Z _) hbn)
                  | (go_split_ands; go_at_call 52; (with_reducible refine (JKT.out _ (by with_reducible assumption)).mono ?_); rintro e wn ⟨vb, rfl, ob, hbn⟩; obtain ⟨Avb, cvb, rfl⟩ := own_formS ob; have hBn := Below.step' (by with_reducible assumption : Below Z.heap.size Z _) hbn)
                  | (go_split_ands; go_at_call 60; (with_reducible refine (KC2.out _ _ _ (Row.of_ownS oa)).mono ?_); rintro e wn ⟨rfl, hbn⟩; have hBn := Below.step' (by with_reducible assumption : Below Z.heap.size Z _) hbn))
            | fail "region 15"
            go_wp2
            go_ret
            exact ⟨rfl, Below.step' HBW.out (by with_reducible assumption)⟩
end Go.Proofs.Ytogegnikpjcpdaa
/- A list of edits, handed in. -/
namespace Go.Proofs.Ytogegnikpjcpdaa
set_option linter.unusedVariables false
open Go.ChangeShapes Go.WideShapes Go.ChangeAt Go.RowKit Go.Deep

set_option maxRecDepth 100000 in
theorem open_ed {H : Type} {enc : TypeId × Value → H} {w : World} {base n : Nat} {spare : Nat → Bool} {held : Bool} {cs : List Value} {x : DataW H × List MemPlace}
    (h : DataW.trod enc Try.prog w base spare held n 108 cs = some x) : ∃ y : Ed, cs = y.cells := by
  obtain ⟨xs, n', _, hx, hlen, hxl, hf⟩ := DataW.trod_struct Try.underlying108 h
  have c5 : Try.prog.cellsOf 108 = 5 := by kernel_rfl
  have c1 : Try.prog.cellsOf 3 = 1 := by kernel_rfl
  rw [c5] at hlen
  match cs, hlen with
  | [u0, u1, u2, u3, u4], _ =>
    match xs, hxl with
    | [y0, y1, y2, y3, y4], _ =>
      have h0 := hf 0 _ rfl
      have h1 := hf 1 _ rfl
      have h2 := hf 2 _ rfl
      have h3 := hf 3 _ rfl
      have h4 := hf 4 _ rfl
      simp only [List.getElem_toArray, List.getElem_cons_zero, List.getElem_cons_succ, List.getElem?_cons_zero, List.getElem?_cons_succ] at h0 h1 h2 h3 h4
      simp only [c1, List.drop_zero, List.take_succ_cons, List.take_zero, List.drop_succ_cons] at h0 h1 h2 h3 h4
      obtain ⟨a, e0, _⟩ := DataW.trod_int Try.underlying3 h0
      obtain ⟨b, e1, _⟩ := DataW.trod_int Try.underlying3 h1
      obtain ⟨c, e2, _⟩ := DataW.trod_int Try.underlying3 h2
      obtain ⟨d, e3, _⟩ := DataW.trod_int Try.underlying3 h3
      obtain ⟨e, e4, _⟩ := DataW.trod_int Try.underlying3 h4
      injection e0 with e0
      injection e1 with e1
      injection e2 with e2
      injection e3 with e3
      injection e4 with e4
      subst e0 e1 e2 e3 e4
      exact ⟨⟨a, b, c, d, e⟩, rfl⟩

set_option maxRecDepth 100000 in
theorem arg_edits {H : Type} {enc : TypeId × Value → H} {w : World} {r : Reach} {b0 base : Nat} {spare : Nat → Bool} {held : Bool} {v : Value} {d : DataW H} {p : List MemPlace}
    (hv : Value.okWide Try.prog w r b0 80 v) (h : DataW.Trod enc Try.prog w base spare held 80 v d p) :
    ∃ (A : Option Addr) (k : Nat) (l : List Ed), v = .slice A l.length k ∧ Row w w.heap.size A (ecells l) ∧ l.length ≤ 9223372036854775807 ∧ l.length ≤ k := by
  obtain ⟨a, n, c, rfl⟩ := okWide_slice Try.underlying80 hv
  obtain ⟨m, hm⟩ := h
  obtain ⟨A, k, l, e, hr, -, hl, -⟩ := open_each (f := Ed.cells) (Q := fun _ => True) Ed.len (by decide) Try.underlying80 (by kernel_rfl) (fun n cs y hy => by
    obtain ⟨z, e⟩ := open_ed hy
    exact ⟨z, trivial, e⟩) hm
  have hk : l.length ≤ k := by
    rcases open_slice Try.underlying80 hm with ⟨e', -⟩ | ⟨_, _, _, _, _, _, _, e', _, hl', _⟩
    · rw [e] at e'
      injection e' with e' _
      injection e' with _ e1 e2
      omega
    · rw [e] at e'
      injection e' with e' _
      injection e' with _ e1 e2
      omega
  simp only [Value.cells, List.cons.injEq, and_true] at e
  exact ⟨A, k, l, e, hr, hl, hk⟩
end Go.Proofs.Ytogegnikpjcpdaa
