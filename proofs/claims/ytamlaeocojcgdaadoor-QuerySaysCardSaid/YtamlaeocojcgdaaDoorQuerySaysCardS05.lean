/- QtF -/
import Derived.Test.YtamlaeocojcgdaaDoorQuerySaysCardS04
/- viewref.QueryText. -/
namespace Go.Proofs.YtamlaeocojcgdaaDoor
set_option linter.unusedVariables false
set_option linter.unusedSimpArgs false
open Go.ChangeShapes Go.WideShapes Go.ChangeAt Go.RowKit

set_option maxHeartbeats 8000000 in
set_option maxRecDepth 100000 in
theorem qtext_any (L : List SR) (A : Option Addr) (c : Nat) (w : World) (hr : RowS w w.heap.size A L) (hl8 : L.length ≤ 8) (hst : ∀ s ∈ sts L, StTx s) (ht : Pow w) (hv : VerbsAt w) :
    Calls Tryd.prog 7 #[.slice A L.length c] w fun e w' => e = .returned (.string (bstr (queryT (sts L)))) ∧ Below w.heap.size w w' := by
  have HR := hid hr
  have HT := hid ht
  have HV := hid hv
  have HST := hid hst
  have eg := enters_itoa
  obtain ⟨B32, hB32⟩ : ∃ q, q = bstr [32] := ⟨_, rfl⟩
  obtain ⟨B10, hB10⟩ : ∃ q, q = bstr [10] := ⟨_, rfl⟩
  obtain ⟨B44, hB44⟩ : ∃ q, q = bstr [44] := ⟨_, rfl⟩
  have H32 := hid hB32
  have H10 := hid hB10
  have H44 := hid hB44
  have e32 : (⟨#[32]⟩ : ByteArray) = B32 := hB32.symm
  have e10 : (⟨#[10]⟩ : ByteArray) = B10 := hB10.symm
  have e44 : (⟨#[44]⟩ : ByteArray) = B44 := hB44.symm
  have z32 : B32.size ≤ 1 := by rw [hB32]; decide
  have z10 : B10.size ≤ 1 := by rw [hB10]; decide
  have z44 : B44.size ≤ 1 := by rw [hB44]; decide
  clear hr ht hv hst hB32 hB10 hB44
  go_enter Tryd.func7, Tryd.ntmps7
  go_wp2_with fail
  -- STOP-a
  go_loopw [4, 5] (fun s4 s5 wr => ∃ i : Nat, i ≤ L.length ∧ s5 = .int .i64 i ∧ s4 = .string (bstr (queryT (sts (L.take i)))) ∧ Hid (Below w.heap.size w wr)) (fun _ s5 _ => L.length - (intOf s5).toNat)
  case atStart => exact ⟨0, by omega, rfl, rfl, hid (Below.refl _ _)⟩
  case round =>
    obtain ⟨i, hi, rfl, rfl, HB⟩ := hrel
    obtain ⟨wo, rfl⟩ : ∃ q : World, q = wr := ⟨_, rfl⟩
    by_cases hlt : i < L.length
    · have t1 : ((i : Int) < (L.length : Int)) = True := eq_true (by omega)
      have HN := hid (show queryT (sts (L.take (i + 1))) = queryT (sts (L.take i)) ++ stepT L[i].st by rw [List.take_succ_eq_append_getElem hlt, sts, List.map_append, List.map_singleton, queryT_snoc])
      have hnl : (queryT (sts (L.take i))).length ≤ 2000 := by
        have h1 := queryT_len (q := sts (L.take i)) (fun s hs => HST.out s (by
          obtain ⟨x, hx, rfl⟩ := List.mem_map.1 hs
          exact List.mem_map.2 ⟨x, List.mem_of_mem_take hx, rfl⟩))
        have h2 : (sts (L.take i)).length ≤ 8 := by rw [List.length_map, List.length_take]; omega
        omega
      obtain ⟨b', off, rfl, hb', c0, c1, c2, c3, c4, c5, c6⟩ := (HR.out.step HB.out).1.sr hlt
      have hsx : StTx L[i].st := HST.out _ (List.mem_map.2 ⟨L[i], List.getElem_mem hlt, rfl⟩)
      have HXR := hid ((HR.out.step HB.out).2 _ (List.getElem_mem hlt)).1
      generalize L[i] = x at *
      obtain ⟨⟨kd, a, b, col, op, val, l⟩, xA, xk⟩ := x
      simp only at c0 c1 c2 c3 c4 c5 c6 HXR hsx HN
      obtain ⟨BO, hBO⟩ : ∃ q, q = bstr (queryT (sts (L.take i))) := ⟨_, rfl⟩
      have zO : BO.size ≤ 2000 := by rw [hBO, bstr_size]; exact hnl
      have HNO := hid (show bstr (queryT (sts (L.take (i + 1)))) = BO ++ bstr (stepT ⟨kd, a, b, col, op, val, l⟩) by rw [HN.out, hBO, bstr_app])
      rw [← hBO]
      clear hBO HN hnl
      have hka := hsx.a; have hkb := hsx.b; have hkc := hsx.col; have hkv := hsx.val; have hko := hsx.op; have hkk := hsx.kind; have hkl := hsx.list; have hk8 := hsx.len; have hkp := hsx.pick
      simp only at hka hkb hkc hkv hko hkk hkl hk8 hkp
      obtain ⟨BA, hBA⟩ : ∃ q, q = bstr (Lib.itoa a) := ⟨_, rfl⟩
      have HBA := hid hBA
      have zA : BA.size ≤ 21 := by rw [hBA, bstr_size]; exact itoa21 (by omega)
      have HA := hid (fun w1 (hb : Below wo.heap.size wo w1) => itoaN_any a (by omega) w1 (Pow.step HT.out (Below.step' HB.out hb)))
      rw [← hBA] at HA
      clear hBA
      have hkk' : kd = 1 ∨ kd = 2 ∨ kd = 3 ∨ kd = 4 ∨ kd = 5 ∨ kd = 6 ∨ kd = 7 ∨ kd = 8 ∨ kd = 9 := by omega
      have HG := hid (HV.out.step HB.out)
      have HWS := hid hsx
      clear hsx hkk
      rcases hkk' with rfl | rfl | rfl | rfl | rfl | rfl | rfl | rfl | rfl
      · -- kind 1
        obtain ⟨VB, hVB⟩ : ∃ q, q = bstr (verbB 1) := ⟨_, rfl⟩
        have HVB := hid hVB
        have zV : VB.size ≤ 8 := by rw [hVB, bstr_size]; exact verbB_len _
        obtain ⟨W, hW⟩ : ∃ W : World, W = wo.alloc (.cells #[.int .i64 1, .int .i64 a, .int .i64 b, .int .i64 col, .int .i64 op, .int .i64 val, .slice xA l.length xk] 40) := ⟨_, rfl⟩
        have hWB : Below wo.heap.size wo W := by rw [hW]; exact alloc_below (Below.refl _ _) _
        have HXB := hid (show Blk W wo.heap.size #[.int .i64 1, .int .i64 a, .int .i64 b, .int .i64 col, .int .i64 op, .int .i64 val, .slice xA l.length xk] 40 by rw [hW]; exact Blk.new _ _ _)
        have hvc : W.cell? ⟨0, 1, none⟩ = some (.string VB) := by rw [hVB]; exact (HG.out.step hWB).2 1 (by omega)
        have hvl : 0 < W.heap.size := (HG.out.step hWB).1
        have hol : wo.heap.size < W.heap.size := HXB.out.lt
        have HBW := hid (Below.step' HB.out hWB)
        have HXW := hid (HXR.out.step hWB)
        have HA' := hid (fun w1 (hb : Below W.heap.size W w1) => HA.out w1 (Below.step' hWB hb))
        have g1 : (9223372036854775807 < VB.size + B32.size) = False := eq_false (by omega)
        have g2 : (9223372036854775807 < VB.size + B32.size + BA.size) = False := eq_false (by omega)
        have g3 : (9223372036854775807 < BO.size + (VB.size + B32.size + BA.size)) = False := eq_false (by omega)
        clear hVB HA
        go_upto_region 7 with fail
        rw [← hW]
        clear hW c0 c1 c2 c3 c4 c5 c6 hWB
        obtain ⟨cHXB, fHXB, sHXB, nHXB⟩ := HXB.out.all
        try simp only [cbox] at cHXB
        -- STOP-k1a
        refine region_ext (by kernel_rfl) (by kernel_rfl) (fun hext => ?_)
        repeat (any_goals ((with_reducible refine wpQuiet_step (fun K hK => ?_)); go_simp; first | (with_reducible refine hK _ ?_; clear hK K) | ((with_reducible apply Exists.intro); (with_reducible refine ⟨fun _ => ?_, hK _ ?_⟩); ((go_at_call 16; (with_reducible refine ext_call _ ?_ (HA'.out _ (Ext.below _))); simp)); clear hK K) | ((with_reducible refine (if_neg ?_).mpr (hK _ ?_)); (decide); clear hK K) | (split <;> (with_reducible refine hK _ ?_; clear hK K))))
        all_goals ((with_reducible refine wpQuiet_nil ?_); clear hext; intro w1 hx1; have hb1 := ext_below hx1; clear hx1)
        -- STOP-k1b
        clear cHXB fHXB sHXB nHXB
        have HB1 := hid hb1
        replace HXB := hid (HXB.out.step hb1)
        obtain ⟨O1, hO1⟩ : ∃ q, q = BO ++ (VB ++ B32 ++ BA) := ⟨_, rfl⟩
        have zO1 : O1.size ≤ 2030 := by rw [hO1]; simp only [ByteArray.size_append]; omega
        rw [← hO1]
        have HO1 := hid hO1
        clear hb1 hO1 g1 g2 g3 zO HA' hvc
        have h10 : (9223372036854775807 < O1.size + B10.size) = False := eq_false (by omega)
        obtain ⟨cHXB, fHXB, sHXB, nHXB⟩ := HXB.out.all
        try simp only [cbox] at cHXB
        go_wp2_with fail
        -- STOP-k1c
        go_roundw
        case rel =>
          refine ⟨i + 1, by omega, by go_num, ?_, hid (Below.step' HBW.out HB1.out)⟩
          rw [HNO.out, HO1.out, HVB.out, H32.out, HBA.out, H10.out]
          simp only [ByteArray.append_assoc]
          simp only [bstr_app]
          simp [stepT, argsT, verbB, numT]
        case measure => simp [intOf]; omega
      · -- kind 2
        obtain ⟨VB, hVB⟩ : ∃ q, q = bstr (verbB 2) := ⟨_, rfl⟩
        have HVB := hid hVB
        have zV : VB.size ≤ 8 := by rw [hVB, bstr_size]; exact verbB_len _
        obtain ⟨W, hW⟩ : ∃ W : World, W = wo.alloc (.cells #[.int .i64 2, .int .i64 a, .int .i64 b, .int .i64 col, .int .i64 op, .int .i64 val, .slice xA l.length xk] 40) := ⟨_, rfl⟩
        have hWB : Below wo.heap.size wo W := by rw [hW]; exact alloc_below (Below.refl _ _) _
        have HXB := hid (show Blk W wo.heap.size #[.int .i64 2, .int .i64 a, .int .i64 b, .int .i64 col, .int .i64 op, .int .i64 val, .slice xA l.length xk] 40 by rw [hW]; exact Blk.new _ _ _)
        have hvc : W.cell? ⟨0, 2, none⟩ = some (.string VB) := by rw [hVB]; exact (HG.out.step hWB).2 2 (by omega)
        have hvl : 0 < W.heap.size := (HG.out.step hWB).1
        have hol : wo.heap.size < W.heap.size := HXB.out.lt
        have HBW := hid (Below.step' HB.out hWB)
        have HXW := hid (HXR.out.step hWB)
        have HA' := hid (fun w1 (hb : Below W.heap.size W w1) => HA.out w1 (Below.step' hWB hb))
        have g1 : (9223372036854775807 < VB.size + B32.size) = False := eq_false (by omega)
        have g2 : (9223372036854775807 < VB.size + B32.size + BA.size) = False := eq_false (by omega)
        have g3 : (9223372036854775807 < BO.size + (VB.size + B32.size + BA.size)) = False := eq_false (by omega)
        clear hVB HA
        go_upto_region 7 with fail
        rw [← hW]
        clear hW c0 c1 c2 c3 c4 c5 c6 hWB
        obtain ⟨cHXB, fHXB, sHXB, nHXB⟩ := HXB.out.all
        try simp only [cbox] at cHXB
        -- STOP-k2a
        refine region_ext (by kernel_rfl) (by kernel_rfl) (fun hext => ?_)
        repeat (any_goals ((with_reducible refine wpQuiet_step (fun K hK => ?_)); go_simp; first | (with_reducible refine hK _ ?_; clear hK K) | ((with_reducible apply Exists.intro); (with_reducible refine ⟨fun _ => ?_, hK _ ?_⟩); ((go_at_call 16; (with_reducible refine ext_call _ ?_ (HA'.out _ (Ext.below _))); simp)); clear hK K) | ((with_reducible refine (if_neg ?_).mpr (hK _ ?_)); (decide); clear hK K) | (split <;> (with_reducible refine hK _ ?_; clear hK K))))
        all_goals ((with_reducible refine wpQuiet_nil ?_); clear hext; intro w1 hx1; have hb1 := ext_below hx1; clear hx1)
        -- STOP-k2b
        clear cHXB fHXB sHXB nHXB
        have HB1 := hid hb1
        replace HXB := hid (HXB.out.step hb1)
        obtain ⟨O1, hO1⟩ : ∃ q, q = BO ++ (VB ++ B32 ++ BA) := ⟨_, rfl⟩
        have zO1 : O1.size ≤ 2030 := by rw [hO1]; simp only [ByteArray.size_append]; omega
        rw [← hO1]
        have HO1 := hid hO1
        clear hb1 hO1 g1 g2 g3 zO HA' hvc
        have h10 : (9223372036854775807 < O1.size + B10.size) = False := eq_false (by omega)
        obtain ⟨BC, hBC⟩ : ∃ q, q = bstr (Lib.itoa col) := ⟨_, rfl⟩
        have HBC := hid hBC
        have zC : BC.size ≤ 21 := by rw [hBC, bstr_size]; exact itoa21 (by omega)
        have HC := hid (fun w1 (hb : Below W.heap.size W w1) => itoaN_any col (by omega) w1 (Pow.step HT.out (Below.step' HBW.out hb)))
        rw [← hBC] at HC
        clear hBC
        obtain ⟨BE, hBE⟩ : ∃ q, q = bstr (Lib.itoa val) := ⟨_, rfl⟩
        have HBE := hid hBE
        have zE : BE.size ≤ 21 := by rw [hBE, bstr_size]; exact itoa21 (by omega)
        have HE := hid (fun w1 (hb : Below W.heap.size W w1) => itoaN_any val (by omega) w1 (Pow.step HT.out (Below.step' HBW.out hb)))
        rw [← hBE] at HE
        clear hBE
        have hw1 := HWS.out.where_ rfl
        simp only at hw1
        have hop : op = 1 ∨ op = 2 ∨ op = 3 := by omega
        have hX2 := HXB.out
        have hol1 : wo.heap.size < w1.heap.size := hX2.lt
        have HC' := hid (fun w2 (hb : Below w1.heap.size w1 w2) => HC.out w2 (Below.step' HB1.out hb))
        have HE' := hid (fun w2 (hb : Below w1.heap.size w1 w2) => HE.out w2 (Below.step' HB1.out hb))
        clear hX2 hw1 HC HE
        have g4 : (9223372036854775807 < B32.size + BC.size) = False := eq_false (by omega)
        have g5 : (9223372036854775807 < B32.size + BC.size + B32.size) = False := eq_false (by omega)
        have g6 : (9223372036854775807 < B32.size + BC.size + B32.size + 1) = False := eq_false (by omega)
        have g7 : (9223372036854775807 < B32.size + BC.size + B32.size + 1 + B32.size) = False := eq_false (by omega)
        have g8 : (9223372036854775807 < B32.size + BC.size + B32.size + 1 + B32.size + BE.size) = False := eq_false (by omega)
        have g9 : (9223372036854775807 < O1.size + (B32.size + BC.size + B32.size + 1 + B32.size + BE.size)) = False := eq_false (by omega)
        have ga : (9223372036854775807 < O1.size + (B32.size + BC.size + B32.size + 1 + B32.size + BE.size) + B10.size) = False := eq_false (by omega)
        rcases hop with rfl | rfl | rfl
        · have esg : (⟨#[60]⟩ : ByteArray) = bstr [60] := rfl
          have HSG := hid esg
          clear esg hka hkb hkc hkv hk8 hkp hkl zO1 zA zV z32 z10 z44 zC zE e44 hvl HXW HXR
          obtain ⟨cHXB, fHXB, sHXB, nHXB⟩ := HXB.out.all
          try simp only [cbox] at cHXB
          go_upto_region 10 with fail
          -- STOP-k2c1
          refine wp_region_held_drew (S := (fun w' => (∀ b o, b < w1.heap.size → w'.cell? ⟨b, o, none⟩ = w1.cell? ⟨b, o, none⟩) ∧ Below w1.heap.size w1 w')) (by kernel_rfl) ?_ (fun hHeld => ?_)
          · exact keepS (Below.refl _ _).drew
          -- STOP-k2s1
          refine' held_take (i := 0) (oi := _) (v := _) ?hi1001 (by kernel_rfl) (by kernel_rfl) (by kernel_rfl) ?hQ1001 ?hg1001 ?hy1001 hHeld ?rest1001
          case hi1001 => simp only [List.getElem?_toArray, List.getElem?_cons_succ, List.getElem?_cons_zero]; rfl
          case hQ1001 => exact fun _ _ _ h => h
          case hg1001 => rfl
          case hy1001 => (intro w hSw; (try dsimp only at hSw); go_simp; try with_reducible rfl)
          try simp only [Act.put, List.setIfInBounds_toArray, List.set_cons_zero, List.set_cons_succ]
          refine' held_take (i := 1) (oi := _) (v := _) ?hi1002 (by kernel_rfl) (by kernel_rfl) (by kernel_rfl) ?hQ1002 ?hg1002 ?hy1002 hHeld ?rest1002
          case hi1002 => simp only [List.getElem?_toArray, List.getElem?_cons_succ, List.getElem?_cons_zero]; rfl
          case hQ1002 => exact fun _ _ _ h => h
          case hg1002 => rfl
          case hy1002 => (intro w hSw; (try dsimp only at hSw); go_simp; try with_reducible rfl)
          try simp only [Act.put, List.setIfInBounds_toArray, List.set_cons_zero, List.set_cons_succ]
          refine' held_take (i := 2) (oi := _) (v := _) ?hi1003 (by kernel_rfl) (by kernel_rfl) (by kernel_rfl) ?hQ1003 ?hg1003 ?hy1003 hHeld ?rest1003
          case hi1003 => simp only [List.getElem?_toArray, List.getElem?_cons_succ, List.getElem?_cons_zero]; rfl
          case hQ1003 => exact fun _ _ _ h => h
          case hg1003 => rfl
          case hy1003 => (intro w hSw; (try dsimp only at hSw); go_simp; try with_reducible rfl)
          try simp only [Act.put, List.setIfInBounds_toArray, List.set_cons_zero, List.set_cons_succ]
          refine' held_take (i := 3) (oi := _) (v := _) ?hi1004 (by kernel_rfl) (by kernel_rfl) (by kernel_rfl) ?hQ1004 ?hg1004 ?hy1004 hHeld ?rest1004
          case hi1004 => simp only [List.getElem?_toArray, List.getElem?_cons_succ, List.getElem?_cons_zero]; rfl
          case hQ1004 => exact fun _ _ _ h => h
          case hg1004 => rfl
          case hy1004 => (intro w hSw; (try dsimp only at hSw); go_simp; try with_reducible rfl)
          try simp only [Act.put, List.setIfInBounds_toArray, List.set_cons_zero, List.set_cons_succ]
          refine' held_take (i := 8) (oi := _) (v := _) ?hi1005 (by kernel_rfl) (by kernel_rfl) (by kernel_rfl) ?hQ1005 ?hg1005 ?hy1005 hHeld ?rest1005
          case hi1005 => simp only [List.getElem?_toArray, List.getElem?_cons_succ, List.getElem?_cons_zero]; rfl
          case hQ1005 => exact fun _ _ _ h => h
          case hg1005 => rfl
          case hy1005 => (intro w hSw; (try dsimp only at hSw); go_simp; try with_reducible rfl)
          try simp only [Act.put, List.setIfInBounds_toArray, List.set_cons_zero, List.set_cons_succ]
          refine' held_take (i := 9) (oi := _) (v := _) ?hi1006 (by kernel_rfl) (by kernel_rfl) (by kernel_rfl) ?hQ1006 ?hg1006 ?hy1006 hHeld ?rest1006
          case hi1006 => simp only [List.getElem?_toArray, List.getElem?_cons_succ, List.getElem?_cons_zero]; rfl
          case hQ1006 => exact fun _ _ _ h => h
          case hg1006 => rfl
          case hy1006 => (intro w hSw; (try dsimp only at hSw); go_simp; try with_reducible rfl)
          try simp only [Act.put, List.setIfInBounds_toArray, List.set_cons_zero, List.set_cons_succ]
          refine' held_take (i := 14) (oi := _) (v := _) ?hi1007 (by kernel_rfl) (by kernel_rfl) (by kernel_rfl) ?hQ1007 ?hg1007 ?hy1007 hHeld ?rest1007
          case hi1007 => simp only [List.getElem?_toArray, List.getElem?_cons_succ, List.getElem?_cons_zero]; rfl
          case hQ1007 => exact fun _ _ _ h => h
          case hg1007 => rfl
          case hy1007 => (intro w hSw; (try dsimp only at hSw); go_simp; try with_reducible rfl)
          try simp only [Act.put, List.setIfInBounds_toArray, List.set_cons_zero, List.set_cons_succ]
          refine' held_take (i := 15) (oi := _) (v := _) ?hi1008 (by kernel_rfl) (by kernel_rfl) (by kernel_rfl) ?hQ1008 ?hg1008 ?hy1008 hHeld ?rest1008
          case hi1008 => simp only [List.getElem?_toArray, List.getElem?_cons_succ, List.getElem?_cons_zero]; rfl
          case hQ1008 => exact fun _ _ _ h => h
          case hg1008 => rfl
          case hy1008 => (intro w hSw; (try dsimp only at hSw); go_simp; try with_reducible rfl)
          try simp only [Act.put, List.setIfInBounds_toArray, List.set_cons_zero, List.set_cons_succ]
          refine' held_take (i := 16) (oi := _) (v := _) ?hi1009 (by kernel_rfl) (by kernel_rfl) (by kernel_rfl) ?hQ1009 ?hg1009 ?hy1009 hHeld ?rest1009
          case hi1009 => simp only [List.getElem?_toArray, List.getElem?_cons_succ, List.getElem?_cons_zero]; rfl
          case hQ1009 => exact fun _ _ _ h => h
          case hg1009 => rfl
          case hy1009 => (intro w hSw; (try dsimp only at hSw); go_simp; try with_reducible rfl)
          try simp only [Act.put, List.setIfInBounds_toArray, List.set_cons_zero, List.set_cons_succ]
          -- STOP-k2t1
          refine wpAnyH_ready (rs := [4,7]) (by kernel_rfl) (by simp) ?_
          refine' AllReadyH.cons (o := _) ?ho1010 (fun K hK => ?st1010) ?mo1010
          case ho1010 => simp only [List.getElem?_toArray, List.getElem?_cons_succ, List.getElem?_cons_zero]; rfl
          case st1010 =>
            refine step_call_value (by rfl) _ _ _ (by rfl) 16 ?hc1011 (.int .i64 col) ?hx1011 eg (.string BC) ?hk1011
            case hc1011 => rfl
            case hx1011 => rfl
            refine (HC'.out _ hHeld.2).mono ?_
            rintro e w2 ⟨rfl, hb2⟩
            refine ⟨rfl, ?_⟩
            have hB2 : Below w1.heap.size w1 w2 := Below.step' hHeld.2 hb2
            refine hK.out _ _ (keepS hB2) (fun hHeld => ?_)
            clear hK K
            try simp only [Act.put, List.setIfInBounds_toArray, List.set_cons_zero, List.set_cons_succ]
            refine' held_take (i := 5) (oi := _) (v := _) ?hi1012 (by kernel_rfl) (by kernel_rfl) (by kernel_rfl) ?hQ1012 ?hg1012 ?hy1012 hHeld ?rest1012
            case hi1012 => simp only [List.getElem?_toArray, List.getElem?_cons_succ, List.getElem?_cons_zero]; rfl
            case hQ1012 => exact fun _ _ _ h => h
            case hg1012 => rfl
            case hy1012 => (intro w hSw; (try dsimp only at hSw); go_simp; try with_reducible rfl)
            try simp only [Act.put, List.setIfInBounds_toArray, List.set_cons_zero, List.set_cons_succ]
            refine' held_take (i := 6) (oi := _) (v := _) ?hi1013 (by kernel_rfl) (by kernel_rfl) (by kernel_rfl) ?hQ1013 ?hg1013 ?hy1013 hHeld ?rest1013
            case hi1013 => simp only [List.getElem?_toArray, List.getElem?_cons_succ, List.getElem?_cons_zero]; rfl
            case hQ1013 => exact fun _ _ _ h => h
            case hg1013 => rfl
            case hy1013 => (intro w hSw; (try dsimp only at hSw); go_simp; try with_reducible rfl)
            try simp only [Act.put, List.setIfInBounds_toArray, List.set_cons_zero, List.set_cons_succ]
            refine wpAnyH_ready (rs := [7,17]) (by kernel_rfl) (by simp) ?_
            refine' AllReadyH.cons (o := _) ?ho1014 (fun K hK => ?st1014) ?mo1014
            case ho1014 => simp only [List.getElem?_toArray, List.getElem?_cons_succ, List.getElem?_cons_zero]; rfl
            case st1014 =>
              go_simp
              refine hK.out _ _ (keepS (by first | exact alloc_below (by first | assumption | exact hHeld.2) _ | exact (alloc_below (Below.refl _ _) _).drew | exact alloc_below (Below.refl _ _).drew _)) (fun hHeld => ?_)
              clear hK K
              try simp only [Act.put, List.setIfInBounds_toArray, List.set_cons_zero, List.set_cons_succ]
              refine wpAnyH_turn (S := (fun w' => (∀ b o, b < w1.heap.size → w'.cell? ⟨b, o, none⟩ = w1.cell? ⟨b, o, none⟩) ∧ Below w1.heap.size w1 w')) (S' := fun w' => ((∀ b o, b < w1.heap.size → w'.cell? ⟨b, o, none⟩ = w1.cell? ⟨b, o, none⟩) ∧ Below w1.heap.size w1 w') ∧ (w'.cell? ⟨w2.heap.size, 1, none⟩ = some (.string ⟨#[60]⟩) ∧ w2.heap.size < w'.heap.size)) (fun _ h => h.1) _ _ _ _ ?_
              replace hHeld := And.intro hHeld (And.intro (show _ = some (Value.string ⟨#[60]⟩) from (Blk.new w2 #[.string ⟨#[]⟩, .string ⟨#[60]⟩, .string ⟨#[61]⟩, .string ⟨#[62]⟩] 9).cells.1 1) (lt_alloc w2 (.cells #[.string ⟨#[]⟩, .string ⟨#[60]⟩, .string ⟨#[61]⟩, .string ⟨#[62]⟩] 9)))
              refine' held_take (i := 10) (oi := _) (v := _) ?hi1015 (by kernel_rfl) (by kernel_rfl) (by kernel_rfl) ?hQ1015 ?hg1015 ?hy1015 hHeld ?rest1015
              case hi1015 => simp only [List.getElem?_toArray, List.getElem?_cons_succ, List.getElem?_cons_zero]; rfl
              case hQ1015 => exact fun _ _ _ h => h
              case hg1015 => rfl
              case hy1015 => (intro w hSw; (try dsimp only at hSw); go_simp; try with_reducible rfl)
              try simp only [Act.put, List.setIfInBounds_toArray, List.set_cons_zero, List.set_cons_succ]
              refine' held_take (i := 11) (oi := _) (v := _) ?hi1016 (by kernel_rfl) (by kernel_rfl) (by kernel_rfl) ?hQ1016 ?hg1016 ?hy1016 hHeld ?rest1016
              case hi1016 => simp only [List.getElem?_toArray, List.getElem?_cons_succ, List.getElem?_cons_zero]; rfl
              case hQ1016 => exact fun _ _ _ h => h
              case hg1016 => rfl
              case hy1016 => (intro w hSw; (try dsimp only at hSw); go_simp; try with_reducible rfl)
              try simp only [Act.put, List.setIfInBounds_toArray, List.set_cons_zero, List.set_cons_succ]
              refine' held_take (i := 12) (oi := _) (v := _) ?hi1017 (by kernel_rfl) (by kernel_rfl) (by kernel_rfl) ?hQ1017 ?hg1017 ?hy1017 hHeld ?rest1017
              case hi1017 => simp only [List.getElem?_toArray, List.getElem?_cons_succ, List.getElem?_cons_zero]; rfl
              case hQ1017 => exact fun _ _ _ h => h
              case hg1017 => rfl
              case hy1017 => (intro w hSw; (try dsimp only at hSw); go_simp; try with_reducible rfl)
              try simp only [Act.put, List.setIfInBounds_toArray, List.set_cons_zero, List.set_cons_succ]
              refine' held_take (i := 13) (oi := _) (v := _) ?hi1018 (by kernel_rfl) (by kernel_rfl) (by kernel_rfl) ?hQ1018 ?hg1018 ?hy1018 hHeld ?rest1018
              case hi1018 => simp only [List.getElem?_toArray, List.getElem?_cons_succ, List.getElem?_cons_zero]; rfl
              case hQ1018 => exact fun _ _ _ h => h
              case hg1018 => rfl
              case hy1018 => (intro w hSw; (try dsimp only at hSw); go_simp; try with_reducible rfl)
              try simp only [Act.put, List.setIfInBounds_toArray, List.set_cons_zero, List.set_cons_succ]
              -- STOP-k2w1
              refine wpAnyH_ready (rs := [17]) (by kernel_rfl) (by simp) ?_
              refine' AllReadyH.cons (o := _) ?ho1019 (fun K hK => ?st1019) ?mo1019
              case ho1019 => simp only [List.getElem?_toArray, List.getElem?_cons_succ, List.getElem?_cons_zero]; rfl
              case st1019 =>
                refine step_call_value (by rfl) _ _ _ (by rfl) 16 ?hcA1 (.int .i64 val) ?hxA1 eg (.string BE) ?hkA1
                case hcA1 => rfl
                case hxA1 => rfl
                refine (HE'.out _ hHeld.1.2).mono ?_
                rintro e w3 ⟨rfl, hb3⟩
                refine ⟨rfl, ?_⟩
                refine hK.out _ _ (⟨keepS (Below.step' hHeld.1.2 hb3), ((bcell hb3).1 _ _ hHeld.2.2).trans hHeld.2.1, Nat.lt_of_lt_of_le hHeld.2.2 hb3.size⟩) (fun hHeld => ?_)
                clear hK K
                try simp only [Act.put, List.setIfInBounds_toArray, List.set_cons_zero, List.set_cons_succ]
                refine' held_take (i := 18) (oi := _) (v := _) ?hi1020 (by kernel_rfl) (by kernel_rfl) (by kernel_rfl) ?hQ1020 ?hg1020 ?hy1020 hHeld ?rest1020
                case hi1020 => simp only [List.getElem?_toArray, List.getElem?_cons_succ, List.getElem?_cons_zero]; rfl
                case hQ1020 => exact fun _ _ _ h => h
                case hg1020 => rfl
                case hy1020 => (intro w hSw; (try dsimp only at hSw); go_simp; try with_reducible rfl)
                try simp only [Act.put, List.setIfInBounds_toArray, List.set_cons_zero, List.set_cons_succ]
                refine' held_take (i := 19) (oi := _) (v := _) ?hi1021 (by kernel_rfl) (by kernel_rfl) (by kernel_rfl) ?hQ1021 ?hg1021 ?hy1021 hHeld ?rest1021
                case hi1021 => simp only [List.getElem?_toArray, List.getElem?_cons_succ, List.getElem?_cons_zero]; rfl
                case hQ1021 => exact fun _ _ _ h => h
                case hg1021 => rfl
                case hy1021 => (intro w hSw; (try dsimp only at hSw); go_simp; try with_reducible rfl)
                try simp only [Act.put, List.setIfInBounds_toArray, List.set_cons_zero, List.set_cons_succ]
                refine' held_take (i := 20) (oi := _) (v := _) ?hi1022 (by kernel_rfl) (by kernel_rfl) (by kernel_rfl) ?hQ1022 ?hg1022 ?hy1022 hHeld ?rest1022
                case hi1022 => simp only [List.getElem?_toArray, List.getElem?_cons_succ, List.getElem?_cons_zero]; rfl
                case hQ1022 => exact fun _ _ _ h => h
                case hg1022 => rfl
                case hy1022 => (intro w hSw; (try dsimp only at hSw); go_simp; try with_reducible rfl)
                try simp only [Act.put, List.setIfInBounds_toArray, List.set_cons_zero, List.set_cons_succ]
                refine wpAnyH_done (by kernel_rfl) ?_ _
                have hB3 := hHeld.1.2
                -- STOP-k2x1
                go_wp2_with fail
                go_roundw
                case rel =>
                  refine ⟨i + 1, by omega, by go_num, ?_, hid (Below.step' HBW.out (Below.step' HB1.out hB3))⟩
                  rw [HNO.out, HO1.out, HVB.out, H32.out, HBA.out, H10.out, HBC.out, HBE.out, HSG.out]
                  simp only [ByteArray.append_assoc]
                  simp only [bstr_app]
                  simp [stepT, argsT, verbB, numT, signB]
                case measure => simp [intOf]; omega
              case mo1019 => exact AllReadyH.nil
            case mo1014 =>
              refine' AllReadyH.cons (o := _) ?ho1023 (fun K hK => ?st1023) ?mo1023
              case ho1023 => simp only [List.getElem?_toArray, List.getElem?_cons_succ, List.getElem?_cons_zero]; rfl
              case st1023 =>
                refine step_call_value (by rfl) _ _ _ (by rfl) 16 ?hc1024 (.int .i64 val) ?hx1024 eg (.string BE) ?hk1024
                case hc1024 => rfl
                case hx1024 => rfl
                refine (HE'.out _ hHeld.2).mono ?_
                rintro e w3 ⟨rfl, hb3⟩
                refine ⟨rfl, ?_⟩
                have hB3a : Below w1.heap.size w1 w3 := Below.step' hHeld.2 hb3
                refine hK.out _ _ (keepS hB3a) (fun hHeld => ?_)
                clear hK K
                try simp only [Act.put, List.setIfInBounds_toArray, List.set_cons_zero, List.set_cons_succ]
                refine wpAnyH_ready (rs := [7]) (by kernel_rfl) (by simp) ?_
                refine' AllReadyH.cons (o := _) ?ho1025 (fun K hK => ?st1025) ?mo1025
                case ho1025 => simp only [List.getElem?_toArray, List.getElem?_cons_succ, List.getElem?_cons_zero]; rfl
                case st1025 =>
                  go_simp
                  refine hK.out _ _ (keepS (by first | exact alloc_below (by first | assumption | exact hHeld.2) _ | exact (alloc_below (Below.refl _ _) _).drew | exact alloc_below (Below.refl _ _).drew _)) (fun hHeld => ?_)
                  clear hK K
                  try simp only [Act.put, List.setIfInBounds_toArray, List.set_cons_zero, List.set_cons_succ]
                  refine wpAnyH_turn (S := (fun w' => (∀ b o, b < w1.heap.size → w'.cell? ⟨b, o, none⟩ = w1.cell? ⟨b, o, none⟩) ∧ Below w1.heap.size w1 w')) (S' := fun w' => ((∀ b o, b < w1.heap.size → w'.cell? ⟨b, o, none⟩ = w1.cell? ⟨b, o, none⟩) ∧ Below w1.heap.size w1 w') ∧ (w'.cell? ⟨w3.heap.size, 1, none⟩ = some (.string ⟨#[60]⟩) ∧ w3.heap.size < w'.heap.size)) (fun _ h => h.1) _ _ _ _ ?_
                  replace hHeld := And.intro hHeld (And.intro (show _ = some (Value.string ⟨#[60]⟩) from (Blk.new w3 #[.string ⟨#[]⟩, .string ⟨#[60]⟩, .string ⟨#[61]⟩, .string ⟨#[62]⟩] 9).cells.1 1) (lt_alloc w3 (.cells #[.string ⟨#[]⟩, .string ⟨#[60]⟩, .string ⟨#[61]⟩, .string ⟨#[62]⟩] 9)))
                  refine' held_take (i := 10) (oi := _) (v := _) ?hi1026 (by kernel_rfl) (by kernel_rfl) (by kernel_rfl) ?hQ1026 ?hg1026 ?hy1026 hHeld ?rest1026
                  case hi1026 => simp only [List.getElem?_toArray, List.getElem?_cons_succ, List.getElem?_cons_zero]; rfl
                  case hQ1026 => exact fun _ _ _ h => h
                  case hg1026 => rfl
                  case hy1026 => (intro w hSw; (try dsimp only at hSw); go_simp; try with_reducible rfl)
                  try simp only [Act.put, List.setIfInBounds_toArray, List.set_cons_zero, List.set_cons_succ]
                  refine' held_take (i := 11) (oi := _) (v := _) ?hi1027 (by kernel_rfl) (by kernel_rfl) (by kernel_rfl) ?hQ1027 ?hg1027 ?hy1027 hHeld ?rest1027
                  case hi1027 => simp only [List.getElem?_toArray, List.getElem?_cons_succ, List.getElem?_cons_zero]; rfl
                  case hQ1027 => exact fun _ _ _ h => h
                  case hg1027 => rfl
                  case hy1027 => (intro w hSw; (try dsimp only at hSw); go_simp; try with_reducible rfl)
                  try simp only [Act.put, List.setIfInBounds_toArray, List.set_cons_zero, List.set_cons_succ]
                  refine' held_take (i := 12) (oi := _) (v := _) ?hi1028 (by kernel_rfl) (by kernel_rfl) (by kernel_rfl) ?hQ1028 ?hg1028 ?hy1028 hHeld ?rest1028
                  case hi1028 => simp only [List.getElem?_toArray, List.getElem?_cons_succ, List.getElem?_cons_zero]; rfl
                  case hQ1028 => exact fun _ _ _ h => h
                  case hg1028 => rfl
                  case hy1028 => (intro w hSw; (try dsimp only at hSw); go_simp; try with_reducible rfl)
                  try simp only [Act.put, List.setIfInBounds_toArray, List.set_cons_zero, List.set_cons_succ]
                  refine' held_take (i := 13) (oi := _) (v := _) ?hi1029 (by kernel_rfl) (by kernel_rfl) (by kernel_rfl) ?hQ1029 ?hg1029 ?hy1029 hHeld ?rest1029
                  case hi1029 => simp only [List.getElem?_toArray, List.getElem?_cons_succ, List.getElem?_cons_zero]; rfl
                  case hQ1029 => exact fun _ _ _ h => h
                  case hg1029 => rfl
                  case hy1029 => (intro w hSw; (try dsimp only at hSw); go_simp; try with_reducible rfl)
                  try simp only [Act.put, List.setIfInBounds_toArray, List.set_cons_zero, List.set_cons_succ]
                  refine' held_take (i := 18) (oi := _) (v := _) ?hi1030 (by kernel_rfl) (by kernel_rfl) (by kernel_rfl) ?hQ1030 ?hg1030 ?hy1030 hHeld ?rest1030
                  case hi1030 => simp only [List.getElem?_toArray, List.getElem?_cons_succ, List.getElem?_cons_zero]; rfl
                  case hQ1030 => exact fun _ _ _ h => h
                  case hg1030 => rfl
                  case hy1030 => (intro w hSw; (try dsimp only at hSw); go_simp; try with_reducible rfl)
                  try simp only [Act.put, List.setIfInBounds_toArray, List.set_cons_zero, List.set_cons_succ]
                  refine' held_take (i := 19) (oi := _) (v := _) ?hi1031 (by kernel_rfl) (by kernel_rfl) (by kernel_rfl) ?hQ1031 ?hg1031 ?hy1031 hHeld ?rest1031
                  case hi1031 => simp only [List.getElem?_toArray, List.getElem?_cons_succ, List.getElem?_cons_zero]; rfl
                  case hQ1031 => exact fun _ _ _ h => h
                  case hg1031 => rfl
                  case hy1031 => (intro w hSw; (try dsimp only at hSw); go_simp; try with_reducible rfl)
                  try simp only [Act.put, List.setIfInBounds_toArray, List.set_cons_zero, List.set_cons_succ]
                  refine' held_take (i := 20) (oi := _) (v := _) ?hi1032 (by kernel_rfl) (by kernel_rfl) (by kernel_rfl) ?hQ1032 ?hg1032 ?hy1032 hHeld ?rest1032
                  case hi1032 => simp only [List.getElem?_toArray, List.getElem?_cons_succ, List.getElem?_cons_zero]; rfl
                  case hQ1032 => exact fun _ _ _ h => h
                  case hg1032 => rfl
                  case hy1032 => (intro w hSw; (try dsimp only at hSw); go_simp; try with_reducible rfl)
                  try simp only [Act.put, List.setIfInBounds_toArray, List.set_cons_zero, List.set_cons_succ]
                  refine wpAnyH_done (by kernel_rfl) ?_ _
                  have hB3 := hHeld.1.2
                  -- STOP-k2x1
                  go_wp2_with fail
                  go_roundw
                  case rel =>
                    refine ⟨i + 1, by omega, by go_num, ?_, hid (Below.step' HBW.out (Below.step' HB1.out hB3))⟩
                    rw [HNO.out, HO1.out, HVB.out, H32.out, HBA.out, H10.out, HBC.out, HBE.out, HSG.out]
                    simp only [ByteArray.append_assoc]
                    simp only [bstr_app]
                    simp [stepT, argsT, verbB, numT, signB]
                  case measure => simp [intOf]; omega
                case mo1025 => exact AllReadyH.nil
              case mo1023 => exact AllReadyH.nil
          case mo1010 =>
            refine' AllReadyH.cons (o := _) ?ho1033 (fun K hK => ?st1033) ?mo1033
            case ho1033 => simp only [List.getElem?_toArray, List.getElem?_cons_succ, List.getElem?_cons_zero]; rfl
            case st1033 =>
              go_simp
              -- STOP-k2y1
              refine hK.out _ _ (keepS (by first | exact alloc_below (by first | assumption | exact hHeld.2) _ | exact (alloc_below (Below.refl _ _) _).drew | exact alloc_below (Below.refl _ _).drew _)) (fun hHeld => ?_)
              clear hK K
              try simp only [Act.put, List.setIfInBounds_toArray, List.set_cons_zero, List.set_cons_succ]
              refine wpAnyH_turn (S := (fun w' => (∀ b o, b < w1.heap.size → w'.cell? ⟨b, o, none⟩ = w1.cell? ⟨b, o, none⟩) ∧ Below w1.heap.size w1 w')) (S' := fun w' => ((∀ b o, b < w1.heap.size → w'.cell? ⟨b, o, none⟩ = w1.cell? ⟨b, o, none⟩) ∧ Below w1.heap.size w1 w') ∧ (w'.cell? ⟨w1.heap.size, 1, none⟩ = some (.string ⟨#[60]⟩) ∧ w1.heap.size < w'.heap.size)) (fun _ h => h.1) _ _ _ _ ?_
              replace hHeld := And.intro hHeld (And.intro (show _ = some (Value.string ⟨#[60]⟩) from (Blk.new w1 #[.string ⟨#[]⟩, .string ⟨#[60]⟩, .string ⟨#[61]⟩, .string ⟨#[62]⟩] 9).cells.1 1) (lt_alloc w1 (.cells #[.string ⟨#[]⟩, .string ⟨#[60]⟩, .string ⟨#[61]⟩, .string ⟨#[62]⟩] 9)))
              refine' held_take (i := 10) (oi := _) (v := _) ?hi1034 (by kernel_rfl) (by kernel_rfl) (by kernel_rfl) ?hQ1034 ?hg1034 ?hy1034 hHeld ?rest1034
              case hi1034 => simp only [List.getElem?_toArray, List.getElem?_cons_succ, List.getElem?_cons_zero]; rfl
              case hQ1034 => exact fun _ _ _ h => h
              case hg1034 => rfl
              case hy1034 => (intro w hSw; (try dsimp only at hSw); go_simp; try with_reducible rfl)
              try simp only [Act.put, List.setIfInBounds_toArray, List.set_cons_zero, List.set_cons_succ]
              refine' held_take (i := 11) (oi := _) (v := _) ?hi1035 (by kernel_rfl) (by kernel_rfl) (by kernel_rfl) ?hQ1035 ?hg1035 ?hy1035 hHeld ?rest1035
              case hi1035 => simp only [List.getElem?_toArray, List.getElem?_cons_succ, List.getElem?_cons_zero]; rfl
              case hQ1035 => exact fun _ _ _ h => h
              case hg1035 => rfl
              case hy1035 => (intro w hSw; (try dsimp only at hSw); go_simp; try with_reducible rfl)
              try simp only [Act.put, List.setIfInBounds_toArray, List.set_cons_zero, List.set_cons_succ]
              refine wpAnyH_ready (rs := [4]) (by kernel_rfl) (by simp) ?_
              refine' AllReadyH.cons (o := _) ?ho1036 (fun K hK => ?st1036) ?mo1036
              case ho1036 => simp only [List.getElem?_toArray, List.getElem?_cons_succ, List.getElem?_cons_zero]; rfl
              case st1036 =>
                refine step_call_value (by rfl) _ _ _ (by rfl) 16 ?hcB1 (.int .i64 col) ?hxB1 eg (.string BC) ?hkB1
                case hcB1 => rfl
                case hxB1 => rfl
                refine (HC'.out _ hHeld.1.2).mono ?_
                rintro e w2 ⟨rfl, hb2⟩
                refine ⟨rfl, ?_⟩
                refine hK.out _ _ (⟨keepS (Below.step' hHeld.1.2 hb2), ((bcell hb2).1 _ _ hHeld.2.2).trans hHeld.2.1, Nat.lt_of_lt_of_le hHeld.2.2 hb2.size⟩) (fun hHeld => ?_)
                clear hK K
                try simp only [Act.put, List.setIfInBounds_toArray, List.set_cons_zero, List.set_cons_succ]
                refine' held_take (i := 5) (oi := _) (v := _) ?hi1037 (by kernel_rfl) (by kernel_rfl) (by kernel_rfl) ?hQ1037 ?hg1037 ?hy1037 hHeld ?rest1037
                case hi1037 => simp only [List.getElem?_toArray, List.getElem?_cons_succ, List.getElem?_cons_zero]; rfl
                case hQ1037 => exact fun _ _ _ h => h
                case hg1037 => rfl
                case hy1037 => (intro w hSw; (try dsimp only at hSw); go_simp; try with_reducible rfl)
                try simp only [Act.put, List.setIfInBounds_toArray, List.set_cons_zero, List.set_cons_succ]
                refine' held_take (i := 6) (oi := _) (v := _) ?hi1038 (by kernel_rfl) (by kernel_rfl) (by kernel_rfl) ?hQ1038 ?hg1038 ?hy1038 hHeld ?rest1038
                case hi1038 => simp only [List.getElem?_toArray, List.getElem?_cons_succ, List.getElem?_cons_zero]; rfl
                case hQ1038 => exact fun _ _ _ h => h
                case hg1038 => rfl
                case hy1038 => (intro w hSw; (try dsimp only at hSw); go_simp; try with_reducible rfl)
                try simp only [Act.put, List.setIfInBounds_toArray, List.set_cons_zero, List.set_cons_succ]
                refine' held_take (i := 12) (oi := _) (v := _) ?hi1039 (by kernel_rfl) (by kernel_rfl) (by kernel_rfl) ?hQ1039 ?hg1039 ?hy1039 hHeld ?rest1039
                case hi1039 => simp only [List.getElem?_toArray, List.getElem?_cons_succ, List.getElem?_cons_zero]; rfl
                case hQ1039 => exact fun _ _ _ h => h
                case hg1039 => rfl
                case hy1039 => (intro w hSw; (try dsimp only at hSw); go_simp; try with_reducible rfl)
                try simp only [Act.put, List.setIfInBounds_toArray, List.set_cons_zero, List.set_cons_succ]
                refine' held_take (i := 13) (oi := _) (v := _) ?hi1040 (by kernel_rfl) (by kernel_rfl) (by kernel_rfl) ?hQ1040 ?hg1040 ?hy1040 hHeld ?rest1040
                case hi1040 => simp only [List.getElem?_toArray, List.getElem?_cons_succ, List.getElem?_cons_zero]; rfl
                case hQ1040 => exact fun _ _ _ h => h
                case hg1040 => rfl
                case hy1040 => (intro w hSw; (try dsimp only at hSw); go_simp; try with_reducible rfl)
                try simp only [Act.put, List.setIfInBounds_toArray, List.set_cons_zero, List.set_cons_succ]
                refine wpAnyH_ready (rs := [17]) (by kernel_rfl) (by simp) ?_
                refine' AllReadyH.cons (o := _) ?ho1041 (fun K hK => ?st1041) ?mo1041
                case ho1041 => simp only [List.getElem?_toArray, List.getElem?_cons_succ, List.getElem?_cons_zero]; rfl
                case st1041 =>
                  refine step_call_value (by rfl) _ _ _ (by rfl) 16 ?hcC1 (.int .i64 val) ?hxC1 eg (.string BE) ?hkC1
                  case hcC1 => rfl
                  case hxC1 => rfl
                  refine (HE'.out _ hHeld.1.2).mono ?_
                  rintro e w3 ⟨rfl, hb3⟩
                  refine ⟨rfl, ?_⟩
                  refine hK.out _ _ (⟨keepS (Below.step' hHeld.1.2 hb3), ((bcell hb3).1 _ _ hHeld.2.2).trans hHeld.2.1, Nat.lt_of_lt_of_le hHeld.2.2 hb3.size⟩) (fun hHeld => ?_)
                  clear hK K
                  try simp only [Act.put, List.setIfInBounds_toArray, List.set_cons_zero, List.set_cons_succ]
                  refine' held_take (i := 18) (oi := _) (v := _) ?hi1042 (by kernel_rfl) (by kernel_rfl) (by kernel_rfl) ?hQ1042 ?hg1042 ?hy1042 hHeld ?rest1042
                  case hi1042 => simp only [List.getElem?_toArray, List.getElem?_cons_succ, List.getElem?_cons_zero]; rfl
                  case hQ1042 => exact fun _ _ _ h => h
                  case hg1042 => rfl
                  case hy1042 => (intro w hSw; (try dsimp only at hSw); go_simp; try with_reducible rfl)
                  try simp only [Act.put, List.setIfInBounds_toArray, List.set_cons_zero, List.set_cons_succ]
                  refine' held_take (i := 19) (oi := _) (v := _) ?hi1043 (by kernel_rfl) (by kernel_rfl) (by kernel_rfl) ?hQ1043 ?hg1043 ?hy1043 hHeld ?rest1043
                  case hi1043 => simp only [List.getElem?_toArray, List.getElem?_cons_succ, List.getElem?_cons_zero]; rfl
                  case hQ1043 => exact fun _ _ _ h => h
                  case hg1043 => rfl
                  case hy1043 => (intro w hSw; (try dsimp only at hSw); go_simp; try with_reducible rfl)
                  try simp only [Act.put, List.setIfInBounds_toArray, List.set_cons_zero, List.set_cons_succ]
                  refine' held_take (i := 20) (oi := _) (v := _) ?hi1044 (by kernel_rfl) (by kernel_rfl) (by kernel_rfl) ?hQ1044 ?hg1044 ?hy1044 hHeld ?rest1044
                  case hi1044 => simp only [List.getElem?_toArray, List.getElem?_cons_succ, List.getElem?_cons_zero]; rfl
                  case hQ1044 => exact fun _ _ _ h => h
                  case hg1044 => rfl
                  case hy1044 => (intro w hSw; (try dsimp only at hSw); go_simp; try with_reducible rfl)
                  try simp only [Act.put, List.setIfInBounds_toArray, List.set_cons_zero, List.set_cons_succ]
                  refine wpAnyH_done (by kernel_rfl) ?_ _
                  have hB3 := hHeld.1.2
                  -- STOP-k2x1
                  go_wp2_with fail
                  go_roundw
                  case rel =>
                    refine ⟨i + 1, by omega, by go_num, ?_, hid (Below.step' HBW.out (Below.step' HB1.out hB3))⟩
                    rw [HNO.out, HO1.out, HVB.out, H32.out, HBA.out, H10.out, HBC.out, HBE.out, HSG.out]
                    simp only [ByteArray.append_assoc]
                    simp only [bstr_app]
                    simp [stepT, argsT, verbB, numT, signB]
                  case measure => simp [intOf]; omega
                case mo1041 => exact AllReadyH.nil
              case mo1036 => exact AllReadyH.nil
            case mo1033 => exact AllReadyH.nil
        · have esg : (⟨#[61]⟩ : ByteArray) = bstr [61] := rfl
          have HSG := hid esg
          clear esg hka hkb hkc hkv hk8 hkp hkl zO1 zA zV z32 z10 z44 zC zE e44 hvl HXW HXR
          obtain ⟨cHXB, fHXB, sHXB, nHXB⟩ := HXB.out.all
          try simp only [cbox] at cHXB
          go_upto_region 10 with fail
          -- STOP-k2c2
          refine wp_region_held_drew (S := (fun w' => (∀ b o, b < w1.heap.size → w'.cell? ⟨b, o, none⟩ = w1.cell? ⟨b, o, none⟩) ∧ Below w1.heap.size w1 w')) (by kernel_rfl) ?_ (fun hHeld => ?_)
          · exact keepS (Below.refl _ _).drew
          -- STOP-k2s2
          refine' held_take (i := 0) (oi := _) (v := _) ?hi2001 (by kernel_rfl) (by kernel_rfl) (by kernel_rfl) ?hQ2001 ?hg2001 ?hy2001 hHeld ?rest2001
          case hi2001 => simp only [List.getElem?_toArray, List.getElem?_cons_succ, List.getElem?_cons_zero]; rfl
          case hQ2001 => exact fun _ _ _ h => h
          case hg2001 => rfl
          case hy2001 => (intro w hSw; (try dsimp only at hSw); go_simp; try with_reducible rfl)
          try simp only [Act.put, List.setIfInBounds_toArray, List.set_cons_zero, List.set_cons_succ]
          refine' held_take (i := 1) (oi := _) (v := _) ?hi2002 (by kernel_rfl) (by kernel_rfl) (by kernel_rfl) ?hQ2002 ?hg2002 ?hy2002 hHeld ?rest2002
          case hi2002 => simp only [List.getElem?_toArray, List.getElem?_cons_succ, List.getElem?_cons_zero]; rfl
          case hQ2002 => exact fun _ _ _ h => h
          case hg2002 => rfl
          case hy2002 => (intro w hSw; (try dsimp only at hSw); go_simp; try with_reducible rfl)
          try simp only [Act.put, List.setIfInBounds_toArray, List.set_cons_zero, List.set_cons_succ]
          refine' held_take (i := 2) (oi := _) (v := _) ?hi2003 (by kernel_rfl) (by kernel_rfl) (by kernel_rfl) ?hQ2003 ?hg2003 ?hy2003 hHeld ?rest2003
          case hi2003 => simp only [List.getElem?_toArray, List.getElem?_cons_succ, List.getElem?_cons_zero]; rfl
          case hQ2003 => exact fun _ _ _ h => h
          case hg2003 => rfl
          case hy2003 => (intro w hSw; (try dsimp only at hSw); go_simp; try with_reducible rfl)
          try simp only [Act.put, List.setIfInBounds_toArray, List.set_cons_zero, List.set_cons_succ]
          refine' held_take (i := 3) (oi := _) (v := _) ?hi2004 (by kernel_rfl) (by kernel_rfl) (by kernel_rfl) ?hQ2004 ?hg2004 ?hy2004 hHeld ?rest2004
          case hi2004 => simp only [List.getElem?_toArray, List.getElem?_cons_succ, List.getElem?_cons_zero]; rfl
          case hQ2004 => exact fun _ _ _ h => h
          case hg2004 => rfl
          case hy2004 => (intro w hSw; (try dsimp only at hSw); go_simp; try with_reducible rfl)
          try simp only [Act.put, List.setIfInBounds_toArray, List.set_cons_zero, List.set_cons_succ]
          refine' held_take (i := 8) (oi := _) (v := _) ?hi2005 (by kernel_rfl) (by kernel_rfl) (by kernel_rfl) ?hQ2005 ?hg2005 ?hy2005 hHeld ?rest2005
          case hi2005 => simp only [List.getElem?_toArray, List.getElem?_cons_succ, List.getElem?_cons_zero]; rfl
          case hQ2005 => exact fun _ _ _ h => h
          case hg2005 => rfl
          case hy2005 => (intro w hSw; (try dsimp only at hSw); go_simp; try with_reducible rfl)
          try simp only [Act.put, List.setIfInBounds_toArray, List.set_cons_zero, List.set_cons_succ]
          refine' held_take (i := 9) (oi := _) (v := _) ?hi2006 (by kernel_rfl) (by kernel_rfl) (by kernel_rfl) ?hQ2006 ?hg2006 ?hy2006 hHeld ?rest2006
          case hi2006 => simp only [List.getElem?_toArray, List.getElem?_cons_succ, List.getElem?_cons_zero]; rfl
          case hQ2006 => exact fun _ _ _ h => h
          case hg2006 => rfl
          case hy2006 => (intro w hSw; (try dsimp only at hSw); go_simp; try with_reducible rfl)
          try simp only [Act.put, List.setIfInBounds_toArray, List.set_cons_zero, List.set_cons_succ]
          refine' held_take (i := 14) (oi := _) (v := _) ?hi2007 (by kernel_rfl) (by kernel_rfl) (by kernel_rfl) ?hQ2007 ?hg2007 ?hy2007 hHeld ?rest2007
          case hi2007 => simp only [List.getElem?_toArray, List.getElem?_cons_succ, List.getElem?_cons_zero]; rfl
          case hQ2007 => exact fun _ _ _ h => h
          case hg2007 => rfl
          case hy2007 => (intro w hSw; (try dsimp only at hSw); go_simp; try with_reducible rfl)
          try simp only [Act.put, List.setIfInBounds_toArray, List.set_cons_zero, List.set_cons_succ]
          refine' held_take (i := 15) (oi := _) (v := _) ?hi2008 (by kernel_rfl) (by kernel_rfl) (by kernel_rfl) ?hQ2008 ?hg2008 ?hy2008 hHeld ?rest2008
          case hi2008 => simp only [List.getElem?_toArray, List.getElem?_cons_succ, List.getElem?_cons_zero]; rfl
          case hQ2008 => exact fun _ _ _ h => h
          case hg2008 => rfl
          case hy2008 => (intro w hSw; (try dsimp only at hSw); go_simp; try with_reducible rfl)
          try simp only [Act.put, List.setIfInBounds_toArray, List.set_cons_zero, List.set_cons_succ]
          refine' held_take (i := 16) (oi := _) (v := _) ?hi2009 (by kernel_rfl) (by kernel_rfl) (by kernel_rfl) ?hQ2009 ?hg2009 ?hy2009 hHeld ?rest2009
          case hi2009 => simp only [List.getElem?_toArray, List.getElem?_cons_succ, List.getElem?_cons_zero]; rfl
          case hQ2009 => exact fun _ _ _ h => h
          case hg2009 => rfl
          case hy2009 => (intro w hSw; (try dsimp only at hSw); go_simp; try with_reducible rfl)
          try simp only [Act.put, List.setIfInBounds_toArray, List.set_cons_zero, List.set_cons_succ]
          -- STOP-k2t2
          refine wpAnyH_ready (rs := [4,7]) (by kernel_rfl) (by simp) ?_
          refine' AllReadyH.cons (o := _) ?ho2010 (fun K hK => ?st2010) ?mo2010
          case ho2010 => simp only [List.getElem?_toArray, List.getElem?_cons_succ, List.getElem?_cons_zero]; rfl
          case st2010 =>
            refine step_call_value (by rfl) _ _ _ (by rfl) 16 ?hc2011 (.int .i64 col) ?hx2011 eg (.string BC) ?hk2011
            case hc2011 => rfl
            case hx2011 => rfl
            refine (HC'.out _ hHeld.2).mono ?_
            rintro e w2 ⟨rfl, hb2⟩
            refine ⟨rfl, ?_⟩
            have hB2 : Below w1.heap.size w1 w2 := Below.step' hHeld.2 hb2
            refine hK.out _ _ (keepS hB2) (fun hHeld => ?_)
            clear hK K
            try simp only [Act.put, List.setIfInBounds_toArray, List.set_cons_zero, List.set_cons_succ]
            refine' held_take (i := 5) (oi := _) (v := _) ?hi2012 (by kernel_rfl) (by kernel_rfl) (by kernel_rfl) ?hQ2012 ?hg2012 ?hy2012 hHeld ?rest2012
            case hi2012 => simp only [List.getElem?_toArray, List.getElem?_cons_succ, List.getElem?_cons_zero]; rfl
            case hQ2012 => exact fun _ _ _ h => h
            case hg2012 => rfl
            case hy2012 => (intro w hSw; (try dsimp only at hSw); go_simp; try with_reducible rfl)
            try simp only [Act.put, List.setIfInBounds_toArray, List.set_cons_zero, List.set_cons_succ]
            refine' held_take (i := 6) (oi := _) (v := _) ?hi2013 (by kernel_rfl) (by kernel_rfl) (by kernel_rfl) ?hQ2013 ?hg2013 ?hy2013 hHeld ?rest2013
            case hi2013 => simp only [List.getElem?_toArray, List.getElem?_cons_succ, List.getElem?_cons_zero]; rfl
            case hQ2013 => exact fun _ _ _ h => h
            case hg2013 => rfl
            case hy2013 => (intro w hSw; (try dsimp only at hSw); go_simp; try with_reducible rfl)
            try simp only [Act.put, List.setIfInBounds_toArray, List.set_cons_zero, List.set_cons_succ]
            refine wpAnyH_ready (rs := [7,17]) (by kernel_rfl) (by simp) ?_
            refine' AllReadyH.cons (o := _) ?ho2014 (fun K hK => ?st2014) ?mo2014
            case ho2014 => simp only [List.getElem?_toArray, List.getElem?_cons_succ, List.getElem?_cons_zero]; rfl
            case st2014 =>
              go_simp
              refine hK.out _ _ (keepS (by first | exact alloc_below (by first | assumption | exact hHeld.2) _ | exact (alloc_below (Below.refl _ _) _).drew | exact alloc_below (Below.refl _ _).drew _)) (fun hHeld => ?_)
              clear hK K
              try simp only [Act.put, List.setIfInBounds_toArray, List.set_cons_zero, List.set_cons_succ]
              refine wpAnyH_turn (S := (fun w' => (∀ b o, b < w1.heap.size → w'.cell? ⟨b, o, none⟩ = w1.cell? ⟨b, o, none⟩) ∧ Below w1.heap.size w1 w')) (S' := fun w' => ((∀ b o, b < w1.heap.size → w'.cell? ⟨b, o, none⟩ = w1.cell? ⟨b, o, none⟩) ∧ Below w1.heap.size w1 w') ∧ (w'.cell? ⟨w2.heap.size, 2, none⟩ = some (.string ⟨#[61]⟩) ∧ w2.heap.size < w'.heap.size)) (fun _ h => h.1) _ _ _ _ ?_
              replace hHeld := And.intro hHeld (And.intro (show _ = some (Value.string ⟨#[61]⟩) from (Blk.new w2 #[.string ⟨#[]⟩, .string ⟨#[60]⟩, .string ⟨#[61]⟩, .string ⟨#[62]⟩] 9).cells.1 2) (lt_alloc w2 (.cells #[.string ⟨#[]⟩, .string ⟨#[60]⟩, .string ⟨#[61]⟩, .string ⟨#[62]⟩] 9)))
              refine' held_take (i := 10) (oi := _) (v := _) ?hi2015 (by kernel_rfl) (by kernel_rfl) (by kernel_rfl) ?hQ2015 ?hg2015 ?hy2015 hHeld ?rest2015
              case hi2015 => simp only [List.getElem?_toArray, List.getElem?_cons_succ, List.getElem?_cons_zero]; rfl
              case hQ2015 => exact fun _ _ _ h => h
              case hg2015 => rfl
              case hy2015 => (intro w hSw; (try dsimp only at hSw); go_simp; try with_reducible rfl)
              try simp only [Act.put, List.setIfInBounds_toArray, List.set_cons_zero, List.set_cons_succ]
              refine' held_take (i := 11) (oi := _) (v := _) ?hi2016 (by kernel_rfl) (by kernel_rfl) (by kernel_rfl) ?hQ2016 ?hg2016 ?hy2016 hHeld ?rest2016
              case hi2016 => simp only [List.getElem?_toArray, List.getElem?_cons_succ, List.getElem?_cons_zero]; rfl
              case hQ2016 => exact fun _ _ _ h => h
              case hg2016 => rfl
              case hy2016 => (intro w hSw; (try dsimp only at hSw); go_simp; try with_reducible rfl)
              try simp only [Act.put, List.setIfInBounds_toArray, List.set_cons_zero, List.set_cons_succ]
              refine' held_take (i := 12) (oi := _) (v := _) ?hi2017 (by kernel_rfl) (by kernel_rfl) (by kernel_rfl) ?hQ2017 ?hg2017 ?hy2017 hHeld ?rest2017
              case hi2017 => simp only [List.getElem?_toArray, List.getElem?_cons_succ, List.getElem?_cons_zero]; rfl
              case hQ2017 => exact fun _ _ _ h => h
              case hg2017 => rfl
              case hy2017 => (intro w hSw; (try dsimp only at hSw); go_simp; try with_reducible rfl)
              try simp only [Act.put, List.setIfInBounds_toArray, List.set_cons_zero, List.set_cons_succ]
              refine' held_take (i := 13) (oi := _) (v := _) ?hi2018 (by kernel_rfl) (by kernel_rfl) (by kernel_rfl) ?hQ2018 ?hg2018 ?hy2018 hHeld ?rest2018
              case hi2018 => simp only [List.getElem?_toArray, List.getElem?_cons_succ, List.getElem?_cons_zero]; rfl
              case hQ2018 => exact fun _ _ _ h => h
              case hg2018 => rfl
              case hy2018 => (intro w hSw; (try dsimp only at hSw); go_simp; try with_reducible rfl)
              try simp only [Act.put, List.setIfInBounds_toArray, List.set_cons_zero, List.set_cons_succ]
              -- STOP-k2w2
              refine wpAnyH_ready (rs := [17]) (by kernel_rfl) (by simp) ?_
              refine' AllReadyH.cons (o := _) ?ho2019 (fun K hK => ?st2019) ?mo2019
              case ho2019 => simp only [List.getElem?_toArray, List.getElem?_cons_succ, List.getElem?_cons_zero]; rfl
              case st2019 =>
                refine step_call_value (by rfl) _ _ _ (by rfl) 16 ?hcA2 (.int .i64 val) ?hxA2 eg (.string BE) ?hkA2
                case hcA2 => rfl
                case hxA2 => rfl
                refine (HE'.out _ hHeld.1.2).mono ?_
                rintro e w3 ⟨rfl, hb3⟩
                refine ⟨rfl, ?_⟩
                refine hK.out _ _ (⟨keepS (Below.step' hHeld.1.2 hb3), ((bcell hb3).1 _ _ hHeld.2.2).trans hHeld.2.1, Nat.lt_of_lt_of_le hHeld.2.2 hb3.size⟩) (fun hHeld => ?_)
                clear hK K
                try simp only [Act.put, List.setIfInBounds_toArray, List.set_cons_zero, List.set_cons_succ]
                refine' held_take (i := 18) (oi := _) (v := _) ?hi2020 (by kernel_rfl) (by kernel_rfl) (by kernel_rfl) ?hQ2020 ?hg2020 ?hy2020 hHeld ?rest2020
                case hi2020 => simp only [List.getElem?_toArray, List.getElem?_cons_succ, List.getElem?_cons_zero]; rfl
                case hQ2020 => exact fun _ _ _ h => h
                case hg2020 => rfl
                case hy2020 => (intro w hSw; (try dsimp only at hSw); go_simp; try with_reducible rfl)
                try simp only [Act.put, List.setIfInBounds_toArray, List.set_cons_zero, List.set_cons_succ]
                refine' held_take (i := 19) (oi := _) (v := _) ?hi2021 (by kernel_rfl) (by kernel_rfl) (by kernel_rfl) ?hQ2021 ?hg2021 ?hy2021 hHeld ?rest2021
                case hi2021 => simp only [List.getElem?_toArray, List.getElem?_cons_succ, List.getElem?_cons_zero]; rfl
                case hQ2021 => exact fun _ _ _ h => h
                case hg2021 => rfl
                case hy2021 => (intro w hSw; (try dsimp only at hSw); go_simp; try with_reducible rfl)
                try simp only [Act.put, List.setIfInBounds_toArray, List.set_cons_zero, List.set_cons_succ]
                refine' held_take (i := 20) (oi := _) (v := _) ?hi2022 (by kernel_rfl) (by kernel_rfl) (by kernel_rfl) ?hQ2022 ?hg2022 ?hy2022 hHeld ?rest2022
                case hi2022 => simp only [List.getElem?_toArray, List.getElem?_cons_succ, List.getElem?_cons_zero]; rfl
                case hQ2022 => exact fun _ _ _ h => h
                case hg2022 => rfl
                case hy2022 => (intro w hSw; (try dsimp only at hSw); go_simp; try with_reducible rfl)
                try simp only [Act.put, List.setIfInBounds_toArray, List.set_cons_zero, List.set_cons_succ]
                refine wpAnyH_done (by kernel_rfl) ?_ _
                have hB3 := hHeld.1.2
                -- STOP-k2x2
                go_wp2_with fail
                go_roundw
                case rel =>
                  refine ⟨i + 1, by omega, by go_num, ?_, hid (Below.step' HBW.out (Below.step' HB1.out hB3))⟩
                  rw [HNO.out, HO1.out, HVB.out, H32.out, HBA.out, H10.out, HBC.out, HBE.out, HSG.out]
                  simp only [ByteArray.append_assoc]
                  simp only [bstr_app]
                  simp [stepT, argsT, verbB, numT, signB]
                case measure => simp [intOf]; omega
              case mo2019 => exact AllReadyH.nil
            case mo2014 =>
              refine' AllReadyH.cons (o := _) ?ho2023 (fun K hK => ?st2023) ?mo2023
              case ho2023 => simp only [List.getElem?_toArray, List.getElem?_cons_succ, List.getElem?_cons_zero]; rfl
              case st2023 =>
                refine step_call_value (by rfl) _ _ _ (by rfl) 16 ?hc2024 (.int .i64 val) ?hx2024 eg (.string BE) ?hk2024
                case hc2024 => rfl
                case hx2024 => rfl
                refine (HE'.out _ hHeld.2).mono ?_
                rintro e w3 ⟨rfl, hb3⟩
                refine ⟨rfl, ?_⟩
                have hB3a : Below w1.heap.size w1 w3 := Below.step' hHeld.2 hb3
                refine hK.out _ _ (keepS hB3a) (fun hHeld => ?_)
                clear hK K
                try simp only [Act.put, List.setIfInBounds_toArray, List.set_cons_zero, List.set_cons_succ]
                refine wpAnyH_ready (rs := [7]) (by kernel_rfl) (by simp) ?_
                refine' AllReadyH.cons (o := _) ?ho2025 (fun K hK => ?st2025) ?mo2025
                case ho2025 => simp only [List.getElem?_toArray, List.getElem?_cons_succ, List.getElem?_cons_zero]; rfl
                case st2025 =>
                  go_simp
                  refine hK.out _ _ (keepS (by first | exact alloc_below (by first | assumption | exact hHeld.2) _ | exact (alloc_below (Below.refl _ _) _).drew | exact alloc_below (Below.refl _ _).drew _)) (fun hHeld => ?_)
                  clear hK K
                  try simp only [Act.put, List.setIfInBounds_toArray, List.set_cons_zero, List.set_cons_succ]
                  refine wpAnyH_turn (S := (fun w' => (∀ b o, b < w1.heap.size → w'.cell? ⟨b, o, none⟩ = w1.cell? ⟨b, o, none⟩) ∧ Below w1.heap.size w1 w')) (S' := fun w' => ((∀ b o, b < w1.heap.size → w'.cell? ⟨b, o, none⟩ = w1.cell? ⟨b, o, none⟩) ∧ Below w1.heap.size w1 w') ∧ (w'.cell? ⟨w3.heap.size, 2, none⟩ = some (.string ⟨#[61]⟩) ∧ w3.heap.size < w'.heap.size)) (fun _ h => h.1) _ _ _ _ ?_
                  replace hHeld := And.intro hHeld (And.intro (show _ = some (Value.string ⟨#[61]⟩) from (Blk.new w3 #[.string ⟨#[]⟩, .string ⟨#[60]⟩, .string ⟨#[61]⟩, .string ⟨#[62]⟩] 9).cells.1 2) (lt_alloc w3 (.cells #[.string ⟨#[]⟩, .string ⟨#[60]⟩, .string ⟨#[61]⟩, .string ⟨#[62]⟩] 9)))
                  refine' held_take (i := 10) (oi := _) (v := _) ?hi2026 (by kernel_rfl) (by kernel_rfl) (by kernel_rfl) ?hQ2026 ?hg2026 ?hy2026 hHeld ?rest2026
                  case hi2026 => simp only [List.getElem?_toArray, List.getElem?_cons_succ, List.getElem?_cons_zero]; rfl
                  case hQ2026 => exact fun _ _ _ h => h
                  case hg2026 => rfl
                  case hy2026 => (intro w hSw; (try dsimp only at hSw); go_simp; try with_reducible rfl)
                  try simp only [Act.put, List.setIfInBounds_toArray, List.set_cons_zero, List.set_cons_succ]
                  refine' held_take (i := 11) (oi := _) (v := _) ?hi2027 (by kernel_rfl) (by kernel_rfl) (by kernel_rfl) ?hQ2027 ?hg2027 ?hy2027 hHeld ?rest2027
                  case hi2027 => simp only [List.getElem?_toArray, List.getElem?_cons_succ, List.getElem?_cons_zero]; rfl
                  case hQ2027 => exact fun _ _ _ h => h
                  case hg2027 => rfl
                  case hy2027 => (intro w hSw; (try dsimp only at hSw); go_simp; try with_reducible rfl)
                  try simp only [Act.put, List.setIfInBounds_toArray, List.set_cons_zero, List.set_cons_succ]
                  refine' held_take (i := 12) (oi := _) (v := _) ?hi2028 (by kernel_rfl) (by kernel_rfl) (by kernel_rfl) ?hQ2028 ?hg2028 ?hy2028 hHeld ?rest2028
                  case hi2028 => simp only [List.getElem?_toArray, List.getElem?_cons_succ, List.getElem?_cons_zero]; rfl
                  case hQ2028 => exact fun _ _ _ h => h
                  case hg2028 => rfl
                  case hy2028 => (intro w hSw; (try dsimp only at hSw); go_simp; try with_reducible rfl)
                  try simp only [Act.put, List.setIfInBounds_toArray, List.set_cons_zero, List.set_cons_succ]
                  refine' held_take (i := 13) (oi := _) (v := _) ?hi2029 (by kernel_rfl) (by kernel_rfl) (by kernel_rfl) ?hQ2029 ?hg2029 ?hy2029 hHeld ?rest2029
                  case hi2029 => simp only [List.getElem?_toArray, List.getElem?_cons_succ, List.getElem?_cons_zero]; rfl
                  case hQ2029 => exact fun _ _ _ h => h
                  case hg2029 => rfl
                  case hy2029 => (intro w hSw; (try dsimp only at hSw); go_simp; try with_reducible rfl)
                  try simp only [Act.put, List.setIfInBounds_toArray, List.set_cons_zero, List.set_cons_succ]
                  refine' held_take (i := 18) (oi := _) (v := _) ?hi2030 (by kernel_rfl) (by kernel_rfl) (by kernel_rfl) ?hQ2030 ?hg2030 ?hy2030 hHeld ?rest2030
                  case hi2030 => simp only [List.getElem?_toArray, List.getElem?_cons_succ, List.getElem?_cons_zero]; rfl
                  case hQ2030 => exact fun _ _ _ h => h
                  case hg2030 => rfl
                  case hy2030 => (intro w hSw; (try dsimp only at hSw); go_simp; try with_reducible rfl)
                  try simp only [Act.put, List.setIfInBounds_toArray, List.set_cons_zero, List.set_cons_succ]
                  refine' held_take (i := 19) (oi := _) (v := _) ?hi2031 (by kernel_rfl) (by kernel_rfl) (by kernel_rfl) ?hQ2031 ?hg2031 ?hy2031 hHeld ?rest2031
                  case hi2031 => simp only [List.getElem?_toArray, List.getElem?_cons_succ, List.getElem?_cons_zero]; rfl
                  case hQ2031 => exact fun _ _ _ h => h
                  case hg2031 => rfl
                  case hy2031 => (intro w hSw; (try dsimp only at hSw); go_simp; try with_reducible rfl)
                  try simp only [Act.put, List.setIfInBounds_toArray, List.set_cons_zero, List.set_cons_succ]
                  refine' held_take (i := 20) (oi := _) (v := _) ?hi2032 (by kernel_rfl) (by kernel_rfl) (by kernel_rfl) ?hQ2032 ?hg2032 ?hy2032 hHeld ?rest2032
                  case hi2032 => simp only [List.getElem?_toArray, List.getElem?_cons_succ, List.getElem?_cons_zero]; rfl
                  case hQ2032 => exact fun _ _ _ h => h
                  case hg2032 => rfl
                  case hy2032 => (intro w hSw; (try dsimp only at hSw); go_simp; try with_reducible rfl)
                  try simp only [Act.put, List.setIfInBounds_toArray, List.set_cons_zero, List.set_cons_succ]
                  refine wpAnyH_done (by kernel_rfl) ?_ _
                  have hB3 := hHeld.1.2
                  -- STOP-k2x2
                  go_wp2_with fail
                  go_roundw
                  case rel =>
                    refine ⟨i + 1, by omega, by go_num, ?_, hid (Below.step' HBW.out (Below.step' HB1.out hB3))⟩
                    rw [HNO.out, HO1.out, HVB.out, H32.out, HBA.out, H10.out, HBC.out, HBE.out, HSG.out]
                    simp only [ByteArray.append_assoc]
                    simp only [bstr_app]
                    simp [stepT, argsT, verbB, numT, signB]
                  case measure => simp [intOf]; omega
                case mo2025 => exact AllReadyH.nil
              case mo2023 => exact AllReadyH.nil
          case mo2010 =>
            refine' AllReadyH.cons (o := _) ?ho2033 (fun K hK => ?st2033) ?mo2033
            case ho2033 => simp only [List.getElem?_toArray, List.getElem?_cons_succ, List.getElem?_cons_zero]; rfl
            case st2033 =>
              go_simp
              -- STOP-k2y2
              refine hK.out _ _ (keepS (by first | exact alloc_below (by first | assumption | exact hHeld.2) _ | exact (alloc_below (Below.refl _ _) _).drew | exact alloc_below (Below.refl _ _).drew _)) (fun hHeld => ?_)
              clear hK K
              try simp only [Act.put, List.setIfInBounds_toArray, List.set_cons_zero, List.set_cons_succ]
              refine wpAnyH_turn (S := (fun w' => (∀ b o, b < w1.heap.size → w'.cell? ⟨b, o, none⟩ = w1.cell? ⟨b, o, none⟩) ∧ Below w1.heap.size w1 w')) (S' := fun w' => ((∀ b o, b < w1.heap.size → w'.cell? ⟨b, o, none⟩ = w1.cell? ⟨b, o, none⟩) ∧ Below w1.heap.size w1 w') ∧ (w'.cell? ⟨w1.heap.size, 2, none⟩ = some (.string ⟨#[61]⟩) ∧ w1.heap.size < w'.heap.size)) (fun _ h => h.1) _ _ _ _ ?_
              replace hHeld := And.intro hHeld (And.intro (show _ = some (Value.string ⟨#[61]⟩) from (Blk.new w1 #[.string ⟨#[]⟩, .string ⟨#[60]⟩, .string ⟨#[61]⟩, .string ⟨#[62]⟩] 9).cells.1 2) (lt_alloc w1 (.cells #[.string ⟨#[]⟩, .string ⟨#[60]⟩, .string ⟨#[61]⟩, .string ⟨#[62]⟩] 9)))
              refine' held_take (i := 10) (oi := _) (v := _) ?hi2034 (by kernel_rfl) (by kernel_rfl) (by kernel_rfl) ?hQ2034 ?hg2034 ?hy2034 hHeld ?rest2034
              case hi2034 => simp only [List.getElem?_toArray, List.getElem?_cons_succ, List.getElem?_cons_zero]; rfl
              case hQ2034 => exact fun _ _ _ h => h
              case hg2034 => rfl
              case hy2034 => (intro w hSw; (try dsimp only at hSw); go_simp; try with_reducible rfl)
              try simp only [Act.put, List.setIfInBounds_toArray, List.set_cons_zero, List.set_cons_succ]
              refine' held_take (i := 11) (oi := _) (v := _) ?hi2035 (by kernel_rfl) (by kernel_rfl) (by kernel_rfl) ?hQ2035 ?hg2035 ?hy2035 hHeld ?rest2035
              case hi2035 => simp only [List.getElem?_toArray, List.getElem?_cons_succ, List.getElem?_cons_zero]; rfl
              case hQ2035 => exact fun _ _ _ h => h
              case hg2035 => rfl
              case hy2035 => (intro w hSw; (try dsimp only at hSw); go_simp; try with_reducible rfl)
              try simp only [Act.put, List.setIfInBounds_toArray, List.set_cons_zero, List.set_cons_succ]
              refine wpAnyH_ready (rs := [4]) (by kernel_rfl) (by simp) ?_
              refine' AllReadyH.cons (o := _) ?ho2036 (fun K hK => ?st2036) ?mo2036
              case ho2036 => simp only [List.getElem?_toArray, List.getElem?_cons_succ, List.getElem?_cons_zero]; rfl
              case st2036 =>
                refine step_call_value (by rfl) _ _ _ (by rfl) 16 ?hcB2 (.int .i64 col) ?hxB2 eg (.string BC) ?hkB2
                case hcB2 => rfl
                case hxB2 => rfl
                refine (HC'.out _ hHeld.1.2).mono ?_
                rintro e w2 ⟨rfl, hb2⟩
                refine ⟨rfl, ?_⟩
                refine hK.out _ _ (⟨keepS (Below.step' hHeld.1.2 hb2), ((bcell hb2).1 _ _ hHeld.2.2).trans hHeld.2.1, Nat.lt_of_lt_of_le hHeld.2.2 hb2.size⟩) (fun hHeld => ?_)
                clear hK K
                try simp only [Act.put, List.setIfInBounds_toArray, List.set_cons_zero, List.set_cons_succ]
                refine' held_take (i := 5) (oi := _) (v := _) ?hi2037 (by kernel_rfl) (by kernel_rfl) (by kernel_rfl) ?hQ2037 ?hg2037 ?hy2037 hHeld ?rest2037
                case hi2037 => simp only [List.getElem?_toArray, List.getElem?_cons_succ, List.getElem?_cons_zero]; rfl
                case hQ2037 => exact fun _ _ _ h => h
                case hg2037 => rfl
                case hy2037 => (intro w hSw; (try dsimp only at hSw); go_simp; try with_reducible rfl)
                try simp only [Act.put, List.setIfInBounds_toArray, List.set_cons_zero, List.set_cons_succ]
                refine' held_take (i := 6) (oi := _) (v := _) ?hi2038 (by kernel_rfl) (by kernel_rfl) (by kernel_rfl) ?hQ2038 ?hg2038 ?hy2038 hHeld ?rest2038
                case hi2038 => simp only [List.getElem?_toArray, List.getElem?_cons_succ, List.getElem?_cons_zero]; rfl
                case hQ2038 => exact fun _ _ _ h => h
                case hg2038 => rfl
                case hy2038 => (intro w hSw; (try dsimp only at hSw); go_simp; try with_reducible rfl)
                try simp only [Act.put, List.setIfInBounds_toArray, List.set_cons_zero, List.set_cons_succ]
                refine' held_take (i := 12) (oi := _) (v := _) ?hi2039 (by kernel_rfl) (by kernel_rfl) (by kernel_rfl) ?hQ2039 ?hg2039 ?hy2039 hHeld ?rest2039
                case hi2039 => simp only [List.getElem?_toArray, List.getElem?_cons_succ, List.getElem?_cons_zero]; rfl
                case hQ2039 => exact fun _ _ _ h => h
                case hg2039 => rfl
                case hy2039 => (intro w hSw; (try dsimp only at hSw); go_simp; try with_reducible rfl)
                try simp only [Act.put, List.setIfInBounds_toArray, List.set_cons_zero, List.set_cons_succ]
                refine' held_take (i := 13) (oi := _) (v := _) ?hi2040 (by kernel_rfl) (by kernel_rfl) (by kernel_rfl) ?hQ2040 ?hg2040 ?hy2040 hHeld ?rest2040
                case hi2040 => simp only [List.getElem?_toArray, List.getElem?_cons_succ, List.getElem?_cons_zero]; rfl
                case hQ2040 => exact fun _ _ _ h => h
                case hg2040 => rfl
                case hy2040 => (intro w hSw; (try dsimp only at hSw); go_simp; try with_reducible rfl)
                try simp only [Act.put, List.setIfInBounds_toArray, List.set_cons_zero, List.set_cons_succ]
                refine wpAnyH_ready (rs := [17]) (by kernel_rfl) (by simp) ?_
                refine' AllReadyH.cons (o := _) ?ho2041 (fun K hK => ?st2041) ?mo2041
                case ho2041 => simp only [List.getElem?_toArray, List.getElem?_cons_succ, List.getElem?_cons_zero]; rfl
                case st2041 =>
                  refine step_call_value (by rfl) _ _ _ (by rfl) 16 ?hcC2 (.int .i64 val) ?hxC2 eg (.string BE) ?hkC2
                  case hcC2 => rfl
                  case hxC2 => rfl
                  refine (HE'.out _ hHeld.1.2).mono ?_
                  rintro e w3 ⟨rfl, hb3⟩
                  refine ⟨rfl, ?_⟩
                  refine hK.out _ _ (⟨keepS (Below.step' hHeld.1.2 hb3), ((bcell hb3).1 _ _ hHeld.2.2).trans hHeld.2.1, Nat.lt_of_lt_of_le hHeld.2.2 hb3.size⟩) (fun hHeld => ?_)
                  clear hK K
                  try simp only [Act.put, List.setIfInBounds_toArray, List.set_cons_zero, List.set_cons_succ]
                  refine' held_take (i := 18) (oi := _) (v := _) ?hi2042 (by kernel_rfl) (by kernel_rfl) (by kernel_rfl) ?hQ2042 ?hg2042 ?hy2042 hHeld ?rest2042
                  case hi2042 => simp only [List.getElem?_toArray, List.getElem?_cons_succ, List.getElem?_cons_zero]; rfl
                  case hQ2042 => exact fun _ _ _ h => h
                  case hg2042 => rfl
                  case hy2042 => (intro w hSw; (try dsimp only at hSw); go_simp; try with_reducible rfl)
                  try simp only [Act.put, List.setIfInBounds_toArray, List.set_cons_zero, List.set_cons_succ]
                  refine' held_take (i := 19) (oi := _) (v := _) ?hi2043 (by kernel_rfl) (by kernel_rfl) (by kernel_rfl) ?hQ2043 ?hg2043 ?hy2043 hHeld ?rest2043
                  case hi2043 => simp only [List.getElem?_toArray, List.getElem?_cons_succ, List.getElem?_cons_zero]; rfl
                  case hQ2043 => exact fun _ _ _ h => h
                  case hg2043 => rfl
                  case hy2043 => (intro w hSw; (try dsimp only at hSw); go_simp; try with_reducible rfl)
                  try simp only [Act.put, List.setIfInBounds_toArray, List.set_cons_zero, List.set_cons_succ]
                  refine' held_take (i := 20) (oi := _) (v := _) ?hi2044 (by kernel_rfl) (by kernel_rfl) (by kernel_rfl) ?hQ2044 ?hg2044 ?hy2044 hHeld ?rest2044
                  case hi2044 => simp only [List.getElem?_toArray, List.getElem?_cons_succ, List.getElem?_cons_zero]; rfl
                  case hQ2044 => exact fun _ _ _ h => h
                  case hg2044 => rfl
                  case hy2044 => (intro w hSw; (try dsimp only at hSw); go_simp; try with_reducible rfl)
                  try simp only [Act.put, List.setIfInBounds_toArray, List.set_cons_zero, List.set_cons_succ]
                  refine wpAnyH_done (by kernel_rfl) ?_ _
                  have hB3 := hHeld.1.2
                  -- STOP-k2x2
                  go_wp2_with fail
                  go_roundw
                  case rel =>
                    refine ⟨i + 1, by omega, by go_num, ?_, hid (Below.step' HBW.out (Below.step' HB1.out hB3))⟩
                    rw [HNO.out, HO1.out, HVB.out, H32.out, HBA.out, H10.out, HBC.out, HBE.out, HSG.out]
                    simp only [ByteArray.append_assoc]
                    simp only [bstr_app]
                    simp [stepT, argsT, verbB, numT, signB]
                  case measure => simp [intOf]; omega
                case mo2041 => exact AllReadyH.nil
              case mo2036 => exact AllReadyH.nil
            case mo2033 => exact AllReadyH.nil
        · have esg : (⟨#[62]⟩ : ByteArray) = bstr [62] := rfl
          have HSG := hid esg
          clear esg hka hkb hkc hkv hk8 hkp hkl zO1 zA zV z32 z10 z44 zC zE e44 hvl HXW HXR
          obtain ⟨cHXB, fHXB, sHXB, nHXB⟩ := HXB.out.all
          try simp only [cbox] at cHXB
          go_upto_region 10 with fail
          -- STOP-k2c3
          refine wp_region_held_drew (S := (fun w' => (∀ b o, b < w1.heap.size → w'.cell? ⟨b, o, none⟩ = w1.cell? ⟨b, o, none⟩) ∧ Below w1.heap.size w1 w')) (by kernel_rfl) ?_ (fun hHeld => ?_)
          · exact keepS (Below.refl _ _).drew
          -- STOP-k2s3
          refine' held_take (i := 0) (oi := _) (v := _) ?hi3001 (by kernel_rfl) (by kernel_rfl) (by kernel_rfl) ?hQ3001 ?hg3001 ?hy3001 hHeld ?rest3001
          case hi3001 => simp only [List.getElem?_toArray, List.getElem?_cons_succ, List.getElem?_cons_zero]; rfl
          case hQ3001 => exact fun _ _ _ h => h
          case hg3001 => rfl
          case hy3001 => (intro w hSw; (try dsimp only at hSw); go_simp; try with_reducible rfl)
          try simp only [Act.put, List.setIfInBounds_toArray, List.set_cons_zero, List.set_cons_succ]
          refine' held_take (i := 1) (oi := _) (v := _) ?hi3002 (by kernel_rfl) (by kernel_rfl) (by kernel_rfl) ?hQ3002 ?hg3002 ?hy3002 hHeld ?rest3002
          case hi3002 => simp only [List.getElem?_toArray, List.getElem?_cons_succ, List.getElem?_cons_zero]; rfl
          case hQ3002 => exact fun _ _ _ h => h
          case hg3002 => rfl
          case hy3002 => (intro w hSw; (try dsimp only at hSw); go_simp; try with_reducible rfl)
          try simp only [Act.put, List.setIfInBounds_toArray, List.set_cons_zero, List.set_cons_succ]
          refine' held_take (i := 2) (oi := _) (v := _) ?hi3003 (by kernel_rfl) (by kernel_rfl) (by kernel_rfl) ?hQ3003 ?hg3003 ?hy3003 hHeld ?rest3003
          case hi3003 => simp only [List.getElem?_toArray, List.getElem?_cons_succ, List.getElem?_cons_zero]; rfl
          case hQ3003 => exact fun _ _ _ h => h
          case hg3003 => rfl
          case hy3003 => (intro w hSw; (try dsimp only at hSw); go_simp; try with_reducible rfl)
          try simp only [Act.put, List.setIfInBounds_toArray, List.set_cons_zero, List.set_cons_succ]
          refine' held_take (i := 3) (oi := _) (v := _) ?hi3004 (by kernel_rfl) (by kernel_rfl) (by kernel_rfl) ?hQ3004 ?hg3004 ?hy3004 hHeld ?rest3004
          case hi3004 => simp only [List.getElem?_toArray, List.getElem?_cons_succ, List.getElem?_cons_zero]; rfl
          case hQ3004 => exact fun _ _ _ h => h
          case hg3004 => rfl
          case hy3004 => (intro w hSw; (try dsimp only at hSw); go_simp; try with_reducible rfl)
          try simp only [Act.put, List.setIfInBounds_toArray, List.set_cons_zero, List.set_cons_succ]
          refine' held_take (i := 8) (oi := _) (v := _) ?hi3005 (by kernel_rfl) (by kernel_rfl) (by kernel_rfl) ?hQ3005 ?hg3005 ?hy3005 hHeld ?rest3005
          case hi3005 => simp only [List.getElem?_toArray, List.getElem?_cons_succ, List.getElem?_cons_zero]; rfl
          case hQ3005 => exact fun _ _ _ h => h
          case hg3005 => rfl
          case hy3005 => (intro w hSw; (try dsimp only at hSw); go_simp; try with_reducible rfl)
          try simp only [Act.put, List.setIfInBounds_toArray, List.set_cons_zero, List.set_cons_succ]
          refine' held_take (i := 9) (oi := _) (v := _) ?hi3006 (by kernel_rfl) (by kernel_rfl) (by kernel_rfl) ?hQ3006 ?hg3006 ?hy3006 hHeld ?rest3006
          case hi3006 => simp only [List.getElem?_toArray, List.getElem?_cons_succ, List.getElem?_cons_zero]; rfl
          case hQ3006 => exact fun _ _ _ h => h
          case hg3006 => rfl
          case hy3006 => (intro w hSw; (try dsimp only at hSw); go_simp; try with_reducible rfl)
          try simp only [Act.put, List.setIfInBounds_toArray, List.set_cons_zero, List.set_cons_succ]
          refine' held_take (i := 14) (oi := _) (v := _) ?hi3007 (by kernel_rfl) (by kernel_rfl) (by kernel_rfl) ?hQ3007 ?hg3007 ?hy3007 hHeld ?rest3007
          case hi3007 => simp only [List.getElem?_toArray, List.getElem?_cons_succ, List.getElem?_cons_zero]; rfl
          case hQ3007 => exact fun _ _ _ h => h
          case hg3007 => rfl
          case hy3007 => (intro w hSw; (try dsimp only at hSw); go_simp; try with_reducible rfl)
          try simp only [Act.put, List.setIfInBounds_toArray, List.set_cons_zero, List.set_cons_succ]
          refine' held_take (i := 15) (oi := _) (v := _) ?hi3008 (by kernel_rfl) (by kernel_rfl) (by kernel_rfl) ?hQ3008 ?hg3008 ?hy3008 hHeld ?rest3008
          case hi3008 => simp only [List.getElem?_toArray, List.getElem?_cons_succ, List.getElem?_cons_zero]; rfl
          case hQ3008 => exact fun _ _ _ h => h
          case hg3008 => rfl
          case hy3008 => (intro w hSw; (try dsimp only at hSw); go_simp; try with_reducible rfl)
          try simp only [Act.put, List.setIfInBounds_toArray, List.set_cons_zero, List.set_cons_succ]
          refine' held_take (i := 16) (oi := _) (v := _) ?hi3009 (by kernel_rfl) (by kernel_rfl) (by kernel_rfl) ?hQ3009 ?hg3009 ?hy3009 hHeld ?rest3009
          case hi3009 => simp only [List.getElem?_toArray, List.getElem?_cons_succ, List.getElem?_cons_zero]; rfl
          case hQ3009 => exact fun _ _ _ h => h
          case hg3009 => rfl
          case hy3009 => (intro w hSw; (try dsimp only at hSw); go_simp; try with_reducible rfl)
          try simp only [Act.put, List.setIfInBounds_toArray, List.set_cons_zero, List.set_cons_succ]
          -- STOP-k2t3
          refine wpAnyH_ready (rs := [4,7]) (by kernel_rfl) (by simp) ?_
          refine' AllReadyH.cons (o := _) ?ho3010 (fun K hK => ?st3010) ?mo3010
          case ho3010 => simp only [List.getElem?_toArray, List.getElem?_cons_succ, List.getElem?_cons_zero]; rfl
          case st3010 =>
            refine step_call_value (by rfl) _ _ _ (by rfl) 16 ?hc3011 (.int .i64 col) ?hx3011 eg (.string BC) ?hk3011
            case hc3011 => rfl
            case hx3011 => rfl
            refine (HC'.out _ hHeld.2).mono ?_
            rintro e w2 ⟨rfl, hb2⟩
            refine ⟨rfl, ?_⟩
            have hB2 : Below w1.heap.size w1 w2 := Below.step' hHeld.2 hb2
            refine hK.out _ _ (keepS hB2) (fun hHeld => ?_)
            clear hK K
            try simp only [Act.put, List.setIfInBounds_toArray, List.set_cons_zero, List.set_cons_succ]
            refine' held_take (i := 5) (oi := _) (v := _) ?hi3012 (by kernel_rfl) (by kernel_rfl) (by kernel_rfl) ?hQ3012 ?hg3012 ?hy3012 hHeld ?rest3012
            case hi3012 => simp only [List.getElem?_toArray, List.getElem?_cons_succ, List.getElem?_cons_zero]; rfl
            case hQ3012 => exact fun _ _ _ h => h
            case hg3012 => rfl
            case hy3012 => (intro w hSw; (try dsimp only at hSw); go_simp; try with_reducible rfl)
            try simp only [Act.put, List.setIfInBounds_toArray, List.set_cons_zero, List.set_cons_succ]
            refine' held_take (i := 6) (oi := _) (v := _) ?hi3013 (by kernel_rfl) (by kernel_rfl) (by kernel_rfl) ?hQ3013 ?hg3013 ?hy3013 hHeld ?rest3013
            case hi3013 => simp only [List.getElem?_toArray, List.getElem?_cons_succ, List.getElem?_cons_zero]; rfl
            case hQ3013 => exact fun _ _ _ h => h
            case hg3013 => rfl
            case hy3013 => (intro w hSw; (try dsimp only at hSw); go_simp; try with_reducible rfl)
            try simp only [Act.put, List.setIfInBounds_toArray, List.set_cons_zero, List.set_cons_succ]
            refine wpAnyH_ready (rs := [7,17]) (by kernel_rfl) (by simp) ?_
            refine' AllReadyH.cons (o := _) ?ho3014 (fun K hK => ?st3014) ?mo3014
            case ho3014 => simp only [List.getElem?_toArray, List.getElem?_cons_succ, List.getElem?_cons_zero]; rfl
            case st3014 =>
              go_simp
              refine hK.out _ _ (keepS (by first | exact alloc_below (by first | assumption | exact hHeld.2) _ | exact (alloc_below (Below.refl _ _) _).drew | exact alloc_below (Below.refl _ _).drew _)) (fun hHeld => ?_)
              clear hK K
              try simp only [Act.put, List.setIfInBounds_toArray, List.set_cons_zero, List.set_cons_succ]
              refine wpAnyH_turn (S := (fun w' => (∀ b o, b < w1.heap.size → w'.cell? ⟨b, o, none⟩ = w1.cell? ⟨b, o, none⟩) ∧ Below w1.heap.size w1 w')) (S' := fun w' => ((∀ b o, b < w1.heap.size → w'.cell? ⟨b, o, none⟩ = w1.cell? ⟨b, o, none⟩) ∧ Below w1.heap.size w1 w') ∧ (w'.cell? ⟨w2.heap.size, 3, none⟩ = some (.string ⟨#[62]⟩) ∧ w2.heap.size < w'.heap.size)) (fun _ h => h.1) _ _ _ _ ?_
              replace hHeld := And.intro hHeld (And.intro (show _ = some (Value.string ⟨#[62]⟩) from (Blk.new w2 #[.string ⟨#[]⟩, .string ⟨#[60]⟩, .string ⟨#[61]⟩, .string ⟨#[62]⟩] 9).cells.1 3) (lt_alloc w2 (.cells #[.string ⟨#[]⟩, .string ⟨#[60]⟩, .string ⟨#[61]⟩, .string ⟨#[62]⟩] 9)))
              refine' held_take (i := 10) (oi := _) (v := _) ?hi3015 (by kernel_rfl) (by kernel_rfl) (by kernel_rfl) ?hQ3015 ?hg3015 ?hy3015 hHeld ?rest3015
              case hi3015 => simp only [List.getElem?_toArray, List.getElem?_cons_succ, List.getElem?_cons_zero]; rfl
              case hQ3015 => exact fun _ _ _ h => h
              case hg3015 => rfl
              case hy3015 => (intro w hSw; (try dsimp only at hSw); go_simp; try with_reducible rfl)
              try simp only [Act.put, List.setIfInBounds_toArray, List.set_cons_zero, List.set_cons_succ]
              refine' held_take (i := 11) (oi := _) (v := _) ?hi3016 (by kernel_rfl) (by kernel_rfl) (by kernel_rfl) ?hQ3016 ?hg3016 ?hy3016 hHeld ?rest3016
              case hi3016 => simp only [List.getElem?_toArray, List.getElem?_cons_succ, List.getElem?_cons_zero]; rfl
              case hQ3016 => exact fun _ _ _ h => h
              case hg3016 => rfl
              case hy3016 => (intro w hSw; (try dsimp only at hSw); go_simp; try with_reducible rfl)
              try simp only [Act.put, List.setIfInBounds_toArray, List.set_cons_zero, List.set_cons_succ]
              refine' held_take (i := 12) (oi := _) (v := _) ?hi3017 (by kernel_rfl) (by kernel_rfl) (by kernel_rfl) ?hQ3017 ?hg3017 ?hy3017 hHeld ?rest3017
              case hi3017 => simp only [List.getElem?_toArray, List.getElem?_cons_succ, List.getElem?_cons_zero]; rfl
              case hQ3017 => exact fun _ _ _ h => h
              case hg3017 => rfl
              case hy3017 => (intro w hSw; (try dsimp only at hSw); go_simp; try with_reducible rfl)
              try simp only [Act.put, List.setIfInBounds_toArray, List.set_cons_zero, List.set_cons_succ]
              refine' held_take (i := 13) (oi := _) (v := _) ?hi3018 (by kernel_rfl) (by kernel_rfl) (by kernel_rfl) ?hQ3018 ?hg3018 ?hy3018 hHeld ?rest3018
              case hi3018 => simp only [List.getElem?_toArray, List.getElem?_cons_succ, List.getElem?_cons_zero]; rfl
              case hQ3018 => exact fun _ _ _ h => h
              case hg3018 => rfl
              case hy3018 => (intro w hSw; (try dsimp only at hSw); go_simp; try with_reducible rfl)
              try simp only [Act.put, List.setIfInBounds_toArray, List.set_cons_zero, List.set_cons_succ]
              -- STOP-k2w3
              refine wpAnyH_ready (rs := [17]) (by kernel_rfl) (by simp) ?_
              refine' AllReadyH.cons (o := _) ?ho3019 (fun K hK => ?st3019) ?mo3019
              case ho3019 => simp only [List.getElem?_toArray, List.getElem?_cons_succ, List.getElem?_cons_zero]; rfl
              case st3019 =>
                refine step_call_value (by rfl) _ _ _ (by rfl) 16 ?hcA3 (.int .i64 val) ?hxA3 eg (.string BE) ?hkA3
                case hcA3 => rfl
                case hxA3 => rfl
                refine (HE'.out _ hHeld.1.2).mono ?_
                rintro e w3 ⟨rfl, hb3⟩
                refine ⟨rfl, ?_⟩
                refine hK.out _ _ (⟨keepS (Below.step' hHeld.1.2 hb3), ((bcell hb3).1 _ _ hHeld.2.2).trans hHeld.2.1, Nat.lt_of_lt_of_le hHeld.2.2 hb3.size⟩) (fun hHeld => ?_)
                clear hK K
                try simp only [Act.put, List.setIfInBounds_toArray, List.set_cons_zero, List.set_cons_succ]
                refine' held_take (i := 18) (oi := _) (v := _) ?hi3020 (by kernel_rfl) (by kernel_rfl) (by kernel_rfl) ?hQ3020 ?hg3020 ?hy3020 hHeld ?rest3020
                case hi3020 => simp only [List.getElem?_toArray, List.getElem?_cons_succ, List.getElem?_cons_zero]; rfl
                case hQ3020 => exact fun _ _ _ h => h
                case hg3020 => rfl
                case hy3020 => (intro w hSw; (try dsimp only at hSw); go_simp; try with_reducible rfl)
                try simp only [Act.put, List.setIfInBounds_toArray, List.set_cons_zero, List.set_cons_succ]
                refine' held_take (i := 19) (oi := _) (v := _) ?hi3021 (by kernel_rfl) (by kernel_rfl) (by kernel_rfl) ?hQ3021 ?hg3021 ?hy3021 hHeld ?rest3021
                case hi3021 => simp only [List.getElem?_toArray, List.getElem?_cons_succ, List.getElem?_cons_zero]; rfl
                case hQ3021 => exact fun _ _ _ h => h
                case hg3021 => rfl
                case hy3021 => (intro w hSw; (try dsimp only at hSw); go_simp; try with_reducible rfl)
                try simp only [Act.put, List.setIfInBounds_toArray, List.set_cons_zero, List.set_cons_succ]
                refine' held_take (i := 20) (oi := _) (v := _) ?hi3022 (by kernel_rfl) (by kernel_rfl) (by kernel_rfl) ?hQ3022 ?hg3022 ?hy3022 hHeld ?rest3022
                case hi3022 => simp only [List.getElem?_toArray, List.getElem?_cons_succ, List.getElem?_cons_zero]; rfl
                case hQ3022 => exact fun _ _ _ h => h
                case hg3022 => rfl
                case hy3022 => (intro w hSw; (try dsimp only at hSw); go_simp; try with_reducible rfl)
                try simp only [Act.put, List.setIfInBounds_toArray, List.set_cons_zero, List.set_cons_succ]
                refine wpAnyH_done (by kernel_rfl) ?_ _
                have hB3 := hHeld.1.2
                -- STOP-k2x3
                go_wp2_with fail
                go_roundw
                case rel =>
                  refine ⟨i + 1, by omega, by go_num, ?_, hid (Below.step' HBW.out (Below.step' HB1.out hB3))⟩
                  rw [HNO.out, HO1.out, HVB.out, H32.out, HBA.out, H10.out, HBC.out, HBE.out, HSG.out]
                  simp only [ByteArray.append_assoc]
                  simp only [bstr_app]
                  simp [stepT, argsT, verbB, numT, signB]
                case measure => simp [intOf]; omega
              case mo3019 => exact AllReadyH.nil
            case mo3014 =>
              refine' AllReadyH.cons (o := _) ?ho3023 (fun K hK => ?st3023) ?mo3023
              case ho3023 => simp only [List.getElem?_toArray, List.getElem?_cons_succ, List.getElem?_cons_zero]; rfl
              case st3023 =>
                refine step_call_value (by rfl) _ _ _ (by rfl) 16 ?hc3024 (.int .i64 val) ?hx3024 eg (.string BE) ?hk3024
                case hc3024 => rfl
                case hx3024 => rfl
                refine (HE'.out _ hHeld.2).mono ?_
                rintro e w3 ⟨rfl, hb3⟩
                refine ⟨rfl, ?_⟩
                have hB3a : Below w1.heap.size w1 w3 := Below.step' hHeld.2 hb3
                refine hK.out _ _ (keepS hB3a) (fun hHeld => ?_)
                clear hK K
                try simp only [Act.put, List.setIfInBounds_toArray, List.set_cons_zero, List.set_cons_succ]
                refine wpAnyH_ready (rs := [7]) (by kernel_rfl) (by simp) ?_
                refine' AllReadyH.cons (o := _) ?ho3025 (fun K hK => ?st3025) ?mo3025
                case ho3025 => simp only [List.getElem?_toArray, List.getElem?_cons_succ, List.getElem?_cons_zero]; rfl
                case st3025 =>
                  go_simp
                  refine hK.out _ _ (keepS (by first | exact alloc_below (by first | assumption | exact hHeld.2) _ | exact (alloc_below (Below.refl _ _) _).drew | exact alloc_below (Below.refl _ _).drew _)) (fun hHeld => ?_)
                  clear hK K
                  try simp only [Act.put, List.setIfInBounds_toArray, List.set_cons_zero, List.set_cons_succ]
                  refine wpAnyH_turn (S := (fun w' => (∀ b o, b < w1.heap.size → w'.cell? ⟨b, o, none⟩ = w1.cell? ⟨b, o, none⟩) ∧ Below w1.heap.size w1 w')) (S' := fun w' => ((∀ b o, b < w1.heap.size → w'.cell? ⟨b, o, none⟩ = w1.cell? ⟨b, o, none⟩) ∧ Below w1.heap.size w1 w') ∧ (w'.cell? ⟨w3.heap.size, 3, none⟩ = some (.string ⟨#[62]⟩) ∧ w3.heap.size < w'.heap.size)) (fun _ h => h.1) _ _ _ _ ?_
                  replace hHeld := And.intro hHeld (And.intro (show _ = some (Value.string ⟨#[62]⟩) from (Blk.new w3 #[.string ⟨#[]⟩, .string ⟨#[60]⟩, .string ⟨#[61]⟩, .string ⟨#[62]⟩] 9).cells.1 3) (lt_alloc w3 (.cells #[.string ⟨#[]⟩, .string ⟨#[60]⟩, .string ⟨#[61]⟩, .string ⟨#[62]⟩] 9)))
                  refine' held_take (i := 10) (oi := _) (v := _) ?hi3026 (by kernel_rfl) (by kernel_rfl) (by kernel_rfl) ?hQ3026 ?hg3026 ?hy3026 hHeld ?rest3026
                  case hi3026 => simp only [List.getElem?_toArray, List.getElem?_cons_succ, List.getElem?_cons_zero]; rfl
                  case hQ3026 => exact fun _ _ _ h => h
                  case hg3026 => rfl
                  case hy3026 => (intro w hSw; (try dsimp only at hSw); go_simp; try with_reducible rfl)
                  try simp only [Act.put, List.setIfInBounds_toArray, List.set_cons_zero, List.set_cons_succ]
                  refine' held_take (i := 11) (oi := _) (v := _) ?hi3027 (by kernel_rfl) (by kernel_rfl) (by kernel_rfl) ?hQ3027 ?hg3027 ?hy3027 hHeld ?rest3027
                  case hi3027 => simp only [List.getElem?_toArray, List.getElem?_cons_succ, List.getElem?_cons_zero]; rfl
                  case hQ3027 => exact fun _ _ _ h => h
                  case hg3027 => rfl
                  case hy3027 => (intro w hSw; (try dsimp only at hSw); go_simp; try with_reducible rfl)
                  try simp only [Act.put, List.setIfInBounds_toArray, List.set_cons_zero, List.set_cons_succ]
                  refine' held_take (i := 12) (oi := _) (v := _) ?hi3028 (by kernel_rfl) (by kernel_rfl) (by kernel_rfl) ?hQ3028 ?hg3028 ?hy3028 hHeld ?rest3028
                  case hi3028 => simp only [List.getElem?_toArray, List.getElem?_cons_succ, List.getElem?_cons_zero]; rfl
                  case hQ3028 => exact fun _ _ _ h => h
                  case hg3028 => rfl
                  case hy3028 => (intro w hSw; (try dsimp only at hSw); go_simp; try with_reducible rfl)
                  try simp only [Act.put, List.setIfInBounds_toArray, List.set_cons_zero, List.set_cons_succ]
                  refine' held_take (i := 13) (oi := _) (v := _) ?hi3029 (by kernel_rfl) (by kernel_rfl) (by kernel_rfl) ?hQ3029 ?hg3029 ?hy3029 hHeld ?rest3029
                  case hi3029 => simp only [List.getElem?_toArray, List.getElem?_cons_succ, List.getElem?_cons_zero]; rfl
                  case hQ3029 => exact fun _ _ _ h => h
                  case hg3029 => rfl
                  case hy3029 => (intro w hSw; (try dsimp only at hSw); go_simp; try with_reducible rfl)
                  try simp only [Act.put, List.setIfInBounds_toArray, List.set_cons_zero, List.set_cons_succ]
                  refine' held_take (i := 18) (oi := _) (v := _) ?hi3030 (by kernel_rfl) (by kernel_rfl) (by kernel_rfl) ?hQ3030 ?hg3030 ?hy3030 hHeld ?rest3030
                  case hi3030 => simp only [List.getElem?_toArray, List.getElem?_cons_succ, List.getElem?_cons_zero]; rfl
                  case hQ3030 => exact fun _ _ _ h => h
                  case hg3030 => rfl
                  case hy3030 => (intro w hSw; (try dsimp only at hSw); go_simp; try with_reducible rfl)
                  try simp only [Act.put, List.setIfInBounds_toArray, List.set_cons_zero, List.set_cons_succ]
                  refine' held_take (i := 19) (oi := _) (v := _) ?hi3031 (by kernel_rfl) (by kernel_rfl) (by kernel_rfl) ?hQ3031 ?hg3031 ?hy3031 hHeld ?rest3031
                  case hi3031 => simp only [List.getElem?_toArray, List.getElem?_cons_succ, List.getElem?_cons_zero]; rfl
                  case hQ3031 => exact fun _ _ _ h => h
                  case hg3031 => rfl
                  case hy3031 => (intro w hSw; (try dsimp only at hSw); go_simp; try with_reducible rfl)
                  try simp only [Act.put, List.setIfInBounds_toArray, List.set_cons_zero, List.set_cons_succ]
                  refine' held_take (i := 20) (oi := _) (v := _) ?hi3032 (by kernel_rfl) (by kernel_rfl) (by kernel_rfl) ?hQ3032 ?hg3032 ?hy3032 hHeld ?rest3032
                  case hi3032 => simp only [List.getElem?_toArray, List.getElem?_cons_succ, List.getElem?_cons_zero]; rfl
                  case hQ3032 => exact fun _ _ _ h => h
                  case hg3032 => rfl
                  case hy3032 => (intro w hSw; (try dsimp only at hSw); go_simp; try with_reducible rfl)
                  try simp only [Act.put, List.setIfInBounds_toArray, List.set_cons_zero, List.set_cons_succ]
                  refine wpAnyH_done (by kernel_rfl) ?_ _
                  have hB3 := hHeld.1.2
                  -- STOP-k2x3
                  go_wp2_with fail
                  go_roundw
                  case rel =>
                    refine ⟨i + 1, by omega, by go_num, ?_, hid (Below.step' HBW.out (Below.step' HB1.out hB3))⟩
                    rw [HNO.out, HO1.out, HVB.out, H32.out, HBA.out, H10.out, HBC.out, HBE.out, HSG.out]
                    simp only [ByteArray.append_assoc]
                    simp only [bstr_app]
                    simp [stepT, argsT, verbB, numT, signB]
                  case measure => simp [intOf]; omega
                case mo3025 => exact AllReadyH.nil
              case mo3023 => exact AllReadyH.nil
          case mo3010 =>
            refine' AllReadyH.cons (o := _) ?ho3033 (fun K hK => ?st3033) ?mo3033
            case ho3033 => simp only [List.getElem?_toArray, List.getElem?_cons_succ, List.getElem?_cons_zero]; rfl
            case st3033 =>
              go_simp
              -- STOP-k2y3
              refine hK.out _ _ (keepS (by first | exact alloc_below (by first | assumption | exact hHeld.2) _ | exact (alloc_below (Below.refl _ _) _).drew | exact alloc_below (Below.refl _ _).drew _)) (fun hHeld => ?_)
              clear hK K
              try simp only [Act.put, List.setIfInBounds_toArray, List.set_cons_zero, List.set_cons_succ]
              refine wpAnyH_turn (S := (fun w' => (∀ b o, b < w1.heap.size → w'.cell? ⟨b, o, none⟩ = w1.cell? ⟨b, o, none⟩) ∧ Below w1.heap.size w1 w')) (S' := fun w' => ((∀ b o, b < w1.heap.size → w'.cell? ⟨b, o, none⟩ = w1.cell? ⟨b, o, none⟩) ∧ Below w1.heap.size w1 w') ∧ (w'.cell? ⟨w1.heap.size, 3, none⟩ = some (.string ⟨#[62]⟩) ∧ w1.heap.size < w'.heap.size)) (fun _ h => h.1) _ _ _ _ ?_
              replace hHeld := And.intro hHeld (And.intro (show _ = some (Value.string ⟨#[62]⟩) from (Blk.new w1 #[.string ⟨#[]⟩, .string ⟨#[60]⟩, .string ⟨#[61]⟩, .string ⟨#[62]⟩] 9).cells.1 3) (lt_alloc w1 (.cells #[.string ⟨#[]⟩, .string ⟨#[60]⟩, .string ⟨#[61]⟩, .string ⟨#[62]⟩] 9)))
              refine' held_take (i := 10) (oi := _) (v := _) ?hi3034 (by kernel_rfl) (by kernel_rfl) (by kernel_rfl) ?hQ3034 ?hg3034 ?hy3034 hHeld ?rest3034
              case hi3034 => simp only [List.getElem?_toArray, List.getElem?_cons_succ, List.getElem?_cons_zero]; rfl
              case hQ3034 => exact fun _ _ _ h => h
              case hg3034 => rfl
              case hy3034 => (intro w hSw; (try dsimp only at hSw); go_simp; try with_reducible rfl)
              try simp only [Act.put, List.setIfInBounds_toArray, List.set_cons_zero, List.set_cons_succ]
              refine' held_take (i := 11) (oi := _) (v := _) ?hi3035 (by kernel_rfl) (by kernel_rfl) (by kernel_rfl) ?hQ3035 ?hg3035 ?hy3035 hHeld ?rest3035
              case hi3035 => simp only [List.getElem?_toArray, List.getElem?_cons_succ, List.getElem?_cons_zero]; rfl
              case hQ3035 => exact fun _ _ _ h => h
              case hg3035 => rfl
              case hy3035 => (intro w hSw; (try dsimp only at hSw); go_simp; try with_reducible rfl)
              try simp only [Act.put, List.setIfInBounds_toArray, List.set_cons_zero, List.set_cons_succ]
              refine wpAnyH_ready (rs := [4]) (by kernel_rfl) (by simp) ?_
              refine' AllReadyH.cons (o := _) ?ho3036 (fun K hK => ?st3036) ?mo3036
              case ho3036 => simp only [List.getElem?_toArray, List.getElem?_cons_succ, List.getElem?_cons_zero]; rfl
              case st3036 =>
                refine step_call_value (by rfl) _ _ _ (by rfl) 16 ?hcB3 (.int .i64 col) ?hxB3 eg (.string BC) ?hkB3
                case hcB3 => rfl
                case hxB3 => rfl
                refine (HC'.out _ hHeld.1.2).mono ?_
                rintro e w2 ⟨rfl, hb2⟩
                refine ⟨rfl, ?_⟩
                refine hK.out _ _ (⟨keepS (Below.step' hHeld.1.2 hb2), ((bcell hb2).1 _ _ hHeld.2.2).trans hHeld.2.1, Nat.lt_of_lt_of_le hHeld.2.2 hb2.size⟩) (fun hHeld => ?_)
                clear hK K
                try simp only [Act.put, List.setIfInBounds_toArray, List.set_cons_zero, List.set_cons_succ]
                refine' held_take (i := 5) (oi := _) (v := _) ?hi3037 (by kernel_rfl) (by kernel_rfl) (by kernel_rfl) ?hQ3037 ?hg3037 ?hy3037 hHeld ?rest3037
                case hi3037 => simp only [List.getElem?_toArray, List.getElem?_cons_succ, List.getElem?_cons_zero]; rfl
                case hQ3037 => exact fun _ _ _ h => h
                case hg3037 => rfl
                case hy3037 => (intro w hSw; (try dsimp only at hSw); go_simp; try with_reducible rfl)
                try simp only [Act.put, List.setIfInBounds_toArray, List.set_cons_zero, List.set_cons_succ]
                refine' held_take (i := 6) (oi := _) (v := _) ?hi3038 (by kernel_rfl) (by kernel_rfl) (by kernel_rfl) ?hQ3038 ?hg3038 ?hy3038 hHeld ?rest3038
                case hi3038 => simp only [List.getElem?_toArray, List.getElem?_cons_succ, List.getElem?_cons_zero]; rfl
                case hQ3038 => exact fun _ _ _ h => h
                case hg3038 => rfl
                case hy3038 => (intro w hSw; (try dsimp only at hSw); go_simp; try with_reducible rfl)
                try simp only [Act.put, List.setIfInBounds_toArray, List.set_cons_zero, List.set_cons_succ]
                refine' held_take (i := 12) (oi := _) (v := _) ?hi3039 (by kernel_rfl) (by kernel_rfl) (by kernel_rfl) ?hQ3039 ?hg3039 ?hy3039 hHeld ?rest3039
                case hi3039 => simp only [List.getElem?_toArray, List.getElem?_cons_succ, List.getElem?_cons_zero]; rfl
                case hQ3039 => exact fun _ _ _ h => h
                case hg3039 => rfl
                case hy3039 => (intro w hSw; (try dsimp only at hSw); go_simp; try with_reducible rfl)
                try simp only [Act.put, List.setIfInBounds_toArray, List.set_cons_zero, List.set_cons_succ]
                refine' held_take (i := 13) (oi := _) (v := _) ?hi3040 (by kernel_rfl) (by kernel_rfl) (by kernel_rfl) ?hQ3040 ?hg3040 ?hy3040 hHeld ?rest3040
                case hi3040 => simp only [List.getElem?_toArray, List.getElem?_cons_succ, List.getElem?_cons_zero]; rfl
                case hQ3040 => exact fun _ _ _ h => h
                case hg3040 => rfl
                case hy3040 => (intro w hSw; (try dsimp only at hSw); go_simp; try with_reducible rfl)
                try simp only [Act.put, List.setIfInBounds_toArray, List.set_cons_zero, List.set_cons_succ]
                refine wpAnyH_ready (rs := [17]) (by kernel_rfl) (by simp) ?_
                refine' AllReadyH.cons (o := _) ?ho3041 (fun K hK => ?st3041) ?mo3041
                case ho3041 => simp only [List.getElem?_toArray, List.getElem?_cons_succ, List.getElem?_cons_zero]; rfl
                case st3041 =>
                  refine step_call_value (by rfl) _ _ _ (by rfl) 16 ?hcC3 (.int .i64 val) ?hxC3 eg (.string BE) ?hkC3
                  case hcC3 => rfl
                  case hxC3 => rfl
                  refine (HE'.out _ hHeld.1.2).mono ?_
                  rintro e w3 ⟨rfl, hb3⟩
                  refine ⟨rfl, ?_⟩
                  refine hK.out _ _ (⟨keepS (Below.step' hHeld.1.2 hb3), ((bcell hb3).1 _ _ hHeld.2.2).trans hHeld.2.1, Nat.lt_of_lt_of_le hHeld.2.2 hb3.size⟩) (fun hHeld => ?_)
                  clear hK K
                  try simp only [Act.put, List.setIfInBounds_toArray, List.set_cons_zero, List.set_cons_succ]
                  refine' held_take (i := 18) (oi := _) (v := _) ?hi3042 (by kernel_rfl) (by kernel_rfl) (by kernel_rfl) ?hQ3042 ?hg3042 ?hy3042 hHeld ?rest3042
                  case hi3042 => simp only [List.getElem?_toArray, List.getElem?_cons_succ, List.getElem?_cons_zero]; rfl
                  case hQ3042 => exact fun _ _ _ h => h
                  case hg3042 => rfl
                  case hy3042 => (intro w hSw; (try dsimp only at hSw); go_simp; try with_reducible rfl)
                  try simp only [Act.put, List.setIfInBounds_toArray, List.set_cons_zero, List.set_cons_succ]
                  refine' held_take (i := 19) (oi := _) (v := _) ?hi3043 (by kernel_rfl) (by kernel_rfl) (by kernel_rfl) ?hQ3043 ?hg3043 ?hy3043 hHeld ?rest3043
                  case hi3043 => simp only [List.getElem?_toArray, List.getElem?_cons_succ, List.getElem?_cons_zero]; rfl
                  case hQ3043 => exact fun _ _ _ h => h
                  case hg3043 => rfl
                  case hy3043 => (intro w hSw; (try dsimp only at hSw); go_simp; try with_reducible rfl)
                  try simp only [Act.put, List.setIfInBounds_toArray, List.set_cons_zero, List.set_cons_succ]
                  refine' held_take (i := 20) (oi := _) (v := _) ?hi3044 (by kernel_rfl) (by kernel_rfl) (by kernel_rfl) ?hQ3044 ?hg3044 ?hy3044 hHeld ?rest3044
                  case hi3044 => simp only [List.getElem?_toArray, List.getElem?_cons_succ, List.getElem?_cons_zero]; rfl
                  case hQ3044 => exact fun _ _ _ h => h
                  case hg3044 => rfl
                  case hy3044 => (intro w hSw; (try dsimp only at hSw); go_simp; try with_reducible rfl)
                  try simp only [Act.put, List.setIfInBounds_toArray, List.set_cons_zero, List.set_cons_succ]
                  refine wpAnyH_done (by kernel_rfl) ?_ _
                  have hB3 := hHeld.1.2
                  -- STOP-k2x3
                  go_wp2_with fail
                  go_roundw
                  case rel =>
                    refine ⟨i + 1, by omega, by go_num, ?_, hid (Below.step' HBW.out (Below.step' HB1.out hB3))⟩
                    rw [HNO.out, HO1.out, HVB.out, H32.out, HBA.out, H10.out, HBC.out, HBE.out, HSG.out]
                    simp only [ByteArray.append_assoc]
                    simp only [bstr_app]
                    simp [stepT, argsT, verbB, numT, signB]
                  case measure => simp [intOf]; omega
                case mo3041 => exact AllReadyH.nil
              case mo3036 => exact AllReadyH.nil
            case mo3033 => exact AllReadyH.nil
      · -- kind 3
        obtain ⟨VB, hVB⟩ : ∃ q, q = bstr (verbB 3) := ⟨_, rfl⟩
        have HVB := hid hVB
        have zV : VB.size ≤ 8 := by rw [hVB, bstr_size]; exact verbB_len _
        obtain ⟨W, hW⟩ : ∃ W : World, W = wo.alloc (.cells #[.int .i64 3, .int .i64 a, .int .i64 b, .int .i64 col, .int .i64 op, .int .i64 val, .slice xA l.length xk] 40) := ⟨_, rfl⟩
        have hWB : Below wo.heap.size wo W := by rw [hW]; exact alloc_below (Below.refl _ _) _
        have HXB := hid (show Blk W wo.heap.size #[.int .i64 3, .int .i64 a, .int .i64 b, .int .i64 col, .int .i64 op, .int .i64 val, .slice xA l.length xk] 40 by rw [hW]; exact Blk.new _ _ _)
        have hvc : W.cell? ⟨0, 3, none⟩ = some (.string VB) := by rw [hVB]; exact (HG.out.step hWB).2 3 (by omega)
        have hvl : 0 < W.heap.size := (HG.out.step hWB).1
        have hol : wo.heap.size < W.heap.size := HXB.out.lt
        have HBW := hid (Below.step' HB.out hWB)
        have HXW := hid (HXR.out.step hWB)
        have HA' := hid (fun w1 (hb : Below W.heap.size W w1) => HA.out w1 (Below.step' hWB hb))
        have g1 : (9223372036854775807 < VB.size + B32.size) = False := eq_false (by omega)
        have g2 : (9223372036854775807 < VB.size + B32.size + BA.size) = False := eq_false (by omega)
        have g3 : (9223372036854775807 < BO.size + (VB.size + B32.size + BA.size)) = False := eq_false (by omega)
        clear hVB HA
        go_upto_region 7 with fail
        rw [← hW]
        clear hW c0 c1 c2 c3 c4 c5 c6 hWB
        obtain ⟨cHXB, fHXB, sHXB, nHXB⟩ := HXB.out.all
        try simp only [cbox] at cHXB
        -- STOP-k3a
        refine region_ext (by kernel_rfl) (by kernel_rfl) (fun hext => ?_)
        repeat (any_goals ((with_reducible refine wpQuiet_step (fun K hK => ?_)); go_simp; first | (with_reducible refine hK _ ?_; clear hK K) | ((with_reducible apply Exists.intro); (with_reducible refine ⟨fun _ => ?_, hK _ ?_⟩); ((go_at_call 16; (with_reducible refine ext_call _ ?_ (HA'.out _ (Ext.below _))); simp)); clear hK K) | ((with_reducible refine (if_neg ?_).mpr (hK _ ?_)); (decide); clear hK K) | (split <;> (with_reducible refine hK _ ?_; clear hK K))))
        all_goals ((with_reducible refine wpQuiet_nil ?_); clear hext; intro w1 hx1; have hb1 := ext_below hx1; clear hx1)
        -- STOP-k3b
        clear cHXB fHXB sHXB nHXB
        have HB1 := hid hb1
        replace HXB := hid (HXB.out.step hb1)
        obtain ⟨O1, hO1⟩ : ∃ q, q = BO ++ (VB ++ B32 ++ BA) := ⟨_, rfl⟩
        have zO1 : O1.size ≤ 2030 := by rw [hO1]; simp only [ByteArray.size_append]; omega
        rw [← hO1]
        have HO1 := hid hO1
        clear hb1 hO1 g1 g2 g3 zO HA' hvc
        have h10 : (9223372036854775807 < O1.size + B10.size) = False := eq_false (by omega)
        have hl0 : 0 < l.length := hkp.2 rfl
        have HKL := hid hkl
        clear hkl hkp
        obtain ⟨W1, hW1⟩ : ∃ q : World, q = w1 := ⟨_, rfl⟩
        rw [← hW1] at HB1 HXB ⊢
        clear hW1
        have HXL := hid (HXW.out.step HB1.out)
        obtain ⟨cHXB, fHXB, sHXB, nHXB⟩ := HXB.out.all
        try simp only [cbox] at cHXB
        go_wp2_with fail
        clear cHXB fHXB sHXB nHXB
        -- STOP-k3c
        go_loopw [4, 7] (fun s4 s7 wr => ∃ (k : Nat) (OK : ByteArray), k ≤ l.length ∧ s7 = .int .i64 k ∧ s4 = .string OK ∧ Hid (OK = if k = 0 then O1 else O1 ++ bstr (32 :: commaT (l.take k))) ∧ OK.size ≤ 2031 + 22 * k ∧ Hid (Below W1.heap.size W1 wr)) (fun _ s7 _ => l.length - (intOf s7).toNat)
        case atStart => exact ⟨0, O1, by omega, rfl, rfl, hid (if_pos rfl).symm, by omega, hid (Below.refl _ _)⟩
        case round =>
          obtain ⟨k, OK, hk, rfl, rfl, HOK, zK, HBK⟩ := hrel
          obtain ⟨wi, rfl⟩ : ∃ q : World, q = wr := ⟨_, rfl⟩
          have HXK := hid (HXB.out.step HBK.out)
          by_cases hlk : k < l.length
          · have t2 : ((k : Int) < (l.length : Int)) = True := eq_true (by omega)
            obtain ⟨bl, ol, rfl, hbl, d0⟩ := (HXL.out.step HBK.out).int' hlk
            have HCS := hid (show commaT (l.take (k + 1)) = if k = 0 then commaT (l.take k) ++ Lib.itoa l[k] else (commaT (l.take k) ++ [44]) ++ Lib.itoa l[k] by rw [List.take_succ_eq_append_getElem hlk, commaT_snoc, List.length_take, Nat.min_eq_left (by omega)])
            have hn8 := HKL.out _ (List.getElem_mem hlk)
            generalize l[k] = n at *
            have HC := hid (itoaN_any n (by omega) wi (Pow.step HT.out (Below.step' HBW.out (Below.step' HB1.out HBK.out))))
            obtain ⟨BN, hBN⟩ : ∃ q, q = bstr (Lib.itoa n) := ⟨_, rfl⟩
            have HBN := hid hBN
            have zN : BN.size ≤ 21 := by rw [hBN, bstr_size]; exact itoa21 (by omega)
            rw [← hBN] at HC
            clear hBN
            by_cases hk0 : k = 0
            · have t3 : ((k : Int) == 0) = true := by simp [hk0]
              have t4 : (k = 0) = True := eq_true hk0
              have HK1 := hid (show (OK ++ B32) ++ BN = O1 ++ bstr (32 :: commaT (l.take (k + 1))) by
                rw [HOK.out, if_pos hk0, HCS.out, if_pos hk0, HBN.out, H32.out, hk0]
                simp only [ByteArray.append_assoc, bstr_app]
                simp [commaT])
              have ga : (9223372036854775807 < OK.size + B32.size) = False := eq_false (by omega)
              have gb : (9223372036854775807 < OK.size + B32.size + BN.size) = False := eq_false (by omega)
              clear hk0 HCS
              obtain ⟨cHXK, fHXK, sHXK, nHXK⟩ := HXK.out.all
              try simp only [cbox] at cHXK
              go_wp2_with fail
              -- STOP-k3d0
              refine HC.out.mono ?_
              rintro e w2 ⟨rfl, hb2⟩
              have HB2 := hid (Below.step' HBK.out hb2)
              clear cHXK fHXK sHXK nHXK
              clear hb2 HC
              go_wp2_with fail
              -- STOP-k3e0
              go_roundw
              case rel => exact ⟨k + 1, (OK ++ B32) ++ BN, by omega, by go_num, rfl, hid (by rw [if_neg (by omega)]; exact HK1.out), by simp only [ByteArray.size_append]; omega, HB2⟩
              case measure => simp [intOf]; omega
            · have t3 : ((k : Int) == 0) = false := by simp [hk0]
              have t4 : (k = 0) = False := eq_false hk0
              have HK1 := hid (show (OK ++ B44) ++ BN = O1 ++ bstr (32 :: commaT (l.take (k + 1))) by
                rw [HOK.out, if_neg hk0, HCS.out, if_neg hk0, HBN.out, H44.out]
                simp only [ByteArray.append_assoc, bstr_app]
                simp)
              have ga : (9223372036854775807 < OK.size + B44.size) = False := eq_false (by omega)
              have gb : (9223372036854775807 < OK.size + B44.size + BN.size) = False := eq_false (by omega)
              clear hk0 HCS
              obtain ⟨cHXK, fHXK, sHXK, nHXK⟩ := HXK.out.all
              try simp only [cbox] at cHXK
              go_wp2_with fail
              -- STOP-k3d1
              refine HC.out.mono ?_
              rintro e w2 ⟨rfl, hb2⟩
              have HB2 := hid (Below.step' HBK.out hb2)
              clear cHXK fHXK sHXK nHXK
              clear hb2 HC
              go_wp2_with fail
              -- STOP-k3e1
              go_roundw
              case rel => exact ⟨k + 1, (OK ++ B44) ++ BN, by omega, by go_num, rfl, hid (by rw [if_neg (by omega)]; exact HK1.out), by simp only [ByteArray.size_append]; omega, HB2⟩
              case measure => simp [intOf]; omega
          · have t2 : ((k : Int) < (l.length : Int)) = False := eq_false (by omega)
            have hkl2 : l.take k = l := List.take_of_length_le (by omega)
            have HOF := hid (show OK = O1 ++ bstr (32 :: commaT l) by rw [HOK.out, if_neg (by omega), hkl2])
            have ga : (9223372036854775807 < OK.size + B10.size) = False := eq_false (by omega)
            have HL0 := hid (show l.length ≠ 0 by omega)
            clear hkl2 HOK
            obtain ⟨cHXK, fHXK, sHXK, nHXK⟩ := HXK.out.all
            try simp only [cbox] at cHXK
            go_wp2_with fail
            -- STOP-k3f
            go_roundw
            case rel =>
              refine ⟨i + 1, by omega, by go_num, ?_, hid (Below.step' HBW.out (Below.step' HB1.out HBK.out))⟩
              rw [HOF.out, HNO.out, HO1.out, HVB.out, H32.out, HBA.out, H10.out]
              simp only [ByteArray.append_assoc]
              simp only [bstr_app]
              simp [stepT, argsT, verbB, numT, HL0.out]
            case measure => simp [intOf]; omega
      · -- kind 4
        obtain ⟨VB, hVB⟩ : ∃ q, q = bstr (verbB 4) := ⟨_, rfl⟩
        have HVB := hid hVB
        have zV : VB.size ≤ 8 := by rw [hVB, bstr_size]; exact verbB_len _
        obtain ⟨W, hW⟩ : ∃ W : World, W = wo.alloc (.cells #[.int .i64 4, .int .i64 a, .int .i64 b, .int .i64 col, .int .i64 op, .int .i64 val, .slice xA l.length xk] 40) := ⟨_, rfl⟩
        have hWB : Below wo.heap.size wo W := by rw [hW]; exact alloc_below (Below.refl _ _) _
        have HXB := hid (show Blk W wo.heap.size #[.int .i64 4, .int .i64 a, .int .i64 b, .int .i64 col, .int .i64 op, .int .i64 val, .slice xA l.length xk] 40 by rw [hW]; exact Blk.new _ _ _)
        have hvc : W.cell? ⟨0, 4, none⟩ = some (.string VB) := by rw [hVB]; exact (HG.out.step hWB).2 4 (by omega)
        have hvl : 0 < W.heap.size := (HG.out.step hWB).1
        have hol : wo.heap.size < W.heap.size := HXB.out.lt
        have HBW := hid (Below.step' HB.out hWB)
        have HXW := hid (HXR.out.step hWB)
        have HA' := hid (fun w1 (hb : Below W.heap.size W w1) => HA.out w1 (Below.step' hWB hb))
        have g1 : (9223372036854775807 < VB.size + B32.size) = False := eq_false (by omega)
        have g2 : (9223372036854775807 < VB.size + B32.size + BA.size) = False := eq_false (by omega)
        have g3 : (9223372036854775807 < BO.size + (VB.size + B32.size + BA.size)) = False := eq_false (by omega)
        clear hVB HA
        go_upto_region 7 with fail
        rw [← hW]
        clear hW c0 c1 c2 c3 c4 c5 c6 hWB
        obtain ⟨cHXB, fHXB, sHXB, nHXB⟩ := HXB.out.all
        try simp only [cbox] at cHXB
        -- STOP-k4a
        refine region_ext (by kernel_rfl) (by kernel_rfl) (fun hext => ?_)
        repeat (any_goals ((with_reducible refine wpQuiet_step (fun K hK => ?_)); go_simp; first | (with_reducible refine hK _ ?_; clear hK K) | ((with_reducible apply Exists.intro); (with_reducible refine ⟨fun _ => ?_, hK _ ?_⟩); ((go_at_call 16; (with_reducible refine ext_call _ ?_ (HA'.out _ (Ext.below _))); simp)); clear hK K) | ((with_reducible refine (if_neg ?_).mpr (hK _ ?_)); (decide); clear hK K) | (split <;> (with_reducible refine hK _ ?_; clear hK K))))
        all_goals ((with_reducible refine wpQuiet_nil ?_); clear hext; intro w1 hx1; have hb1 := ext_below hx1; clear hx1)
        -- STOP-k4b
        clear cHXB fHXB sHXB nHXB
        have HB1 := hid hb1
        replace HXB := hid (HXB.out.step hb1)
        obtain ⟨O1, hO1⟩ : ∃ q, q = BO ++ (VB ++ B32 ++ BA) := ⟨_, rfl⟩
        have zO1 : O1.size ≤ 2030 := by rw [hO1]; simp only [ByteArray.size_append]; omega
        rw [← hO1]
        have HO1 := hid hO1
        clear hb1 hO1 g1 g2 g3 zO HA' hvc
        have h10 : (9223372036854775807 < O1.size + B10.size) = False := eq_false (by omega)
        obtain ⟨BB, hBB⟩ : ∃ q, q = bstr (Lib.itoa b) := ⟨_, rfl⟩
        have HBB := hid hBB
        have zB : BB.size ≤ 21 := by rw [hBB, bstr_size]; exact itoa21 (by omega)
        have HB := hid (fun w1 (hb : Below W.heap.size W w1) => itoaN_any b (by omega) w1 (Pow.step HT.out (Below.step' HBW.out hb)))
        rw [← hBB] at HB
        clear hBB
        obtain ⟨BC, hBC⟩ : ∃ q, q = bstr (Lib.itoa col) := ⟨_, rfl⟩
        have HBC := hid hBC
        have zC : BC.size ≤ 21 := by rw [hBC, bstr_size]; exact itoa21 (by omega)
        have HC := hid (fun w1 (hb : Below W.heap.size W w1) => itoaN_any col (by omega) w1 (Pow.step HT.out (Below.step' HBW.out hb)))
        rw [← hBC] at HC
        clear hBC
        obtain ⟨BE, hBE⟩ : ∃ q, q = bstr (Lib.itoa val) := ⟨_, rfl⟩
        have HBE := hid hBE
        have zE : BE.size ≤ 21 := by rw [hBE, bstr_size]; exact itoa21 (by omega)
        have HE := hid (fun w1 (hb : Below W.heap.size W w1) => itoaN_any val (by omega) w1 (Pow.step HT.out (Below.step' HBW.out hb)))
        rw [← hBE] at HE
        clear hBE
        have g4 : (9223372036854775807 < B32.size + BB.size) = False := eq_false (by omega)
        have g5a : (9223372036854775807 < B32.size + BB.size + B32.size) = False := eq_false (by omega)
        have g5b : (9223372036854775807 < B32.size + BB.size + B32.size + BC.size) = False := eq_false (by omega)
        have g6a : (9223372036854775807 < B32.size + BB.size + B32.size + BC.size + B32.size) = False := eq_false (by omega)
        have g6b : (9223372036854775807 < B32.size + BB.size + B32.size + BC.size + B32.size + BE.size) = False := eq_false (by omega)
        have g8 : (9223372036854775807 < O1.size + (B32.size + BB.size + B32.size + BC.size + B32.size + BE.size)) = False := eq_false (by omega)
        have g9 : (9223372036854775807 < O1.size + (B32.size + BB.size + B32.size + BC.size + B32.size + BE.size) + B10.size) = False := eq_false (by omega)
        obtain ⟨cHXB, fHXB, sHXB, nHXB⟩ := HXB.out.all
        try simp only [cbox] at cHXB
        go_wp2_with fail
        -- STOP-k4c
        refine region_ext (by kernel_rfl) (by kernel_rfl) (fun hext => ?_)
        repeat (any_goals ((with_reducible refine wpQuiet_step (fun K hK => ?_)); go_simp; first | (with_reducible refine hK _ ?_; clear hK K) | ((with_reducible apply Exists.intro); (with_reducible refine ⟨fun _ => ?_, hK _ ?_⟩); (first | (go_at_call 16; (with_reducible refine ext_call _ ?_ (HB.out _ (Below.step' HB1.out (Ext.below _)))); simp) | (go_at_call 16; (with_reducible refine ext_call _ ?_ (HC.out _ (Below.step' HB1.out (Ext.below _)))); simp) | (go_at_call 16; (with_reducible refine ext_call _ ?_ (HE.out _ (Below.step' HB1.out (Ext.below _)))); simp)); clear hK K) | ((with_reducible refine (if_neg ?_).mpr (hK _ ?_)); (decide); clear hK K) | (split <;> (with_reducible refine hK _ ?_; clear hK K))))
        all_goals ((with_reducible refine wpQuiet_nil ?_); clear hext; intro w1 hx1; have hb1 := ext_below hx1; clear hx1)
        clear cHXB fHXB sHXB nHXB
        have HB2 := hid (Below.step' HB1.out hb1)
        clear hb1
        go_wp2_with fail
        -- STOP-k4d
        go_roundw
        case rel =>
          refine ⟨i + 1, by omega, by go_num, ?_, hid (Below.step' HBW.out HB2.out)⟩
          rw [HNO.out, HO1.out, HVB.out, H32.out, HBA.out, H10.out, HBB.out, HBC.out, HBE.out]
          simp only [ByteArray.append_assoc]
          simp only [bstr_app]
          simp [stepT, argsT, verbB, numT]
        case measure => simp [intOf]; omega
      · -- kind 5
        obtain ⟨VB, hVB⟩ : ∃ q, q = bstr (verbB 5) := ⟨_, rfl⟩
        have HVB := hid hVB
        have zV : VB.size ≤ 8 := by rw [hVB, bstr_size]; exact verbB_len _
        obtain ⟨W, hW⟩ : ∃ W : World, W = wo.alloc (.cells #[.int .i64 5, .int .i64 a, .int .i64 b, .int .i64 col, .int .i64 op, .int .i64 val, .slice xA l.length xk] 40) := ⟨_, rfl⟩
        have hWB : Below wo.heap.size wo W := by rw [hW]; exact alloc_below (Below.refl _ _) _
        have HXB := hid (show Blk W wo.heap.size #[.int .i64 5, .int .i64 a, .int .i64 b, .int .i64 col, .int .i64 op, .int .i64 val, .slice xA l.length xk] 40 by rw [hW]; exact Blk.new _ _ _)
        have hvc : W.cell? ⟨0, 5, none⟩ = some (.string VB) := by rw [hVB]; exact (HG.out.step hWB).2 5 (by omega)
        have hvl : 0 < W.heap.size := (HG.out.step hWB).1
        have hol : wo.heap.size < W.heap.size := HXB.out.lt
        have HBW := hid (Below.step' HB.out hWB)
        have HXW := hid (HXR.out.step hWB)
        have HA' := hid (fun w1 (hb : Below W.heap.size W w1) => HA.out w1 (Below.step' hWB hb))
        have g1 : (9223372036854775807 < VB.size + B32.size) = False := eq_false (by omega)
        have g2 : (9223372036854775807 < VB.size + B32.size + BA.size) = False := eq_false (by omega)
        have g3 : (9223372036854775807 < BO.size + (VB.size + B32.size + BA.size)) = False := eq_false (by omega)
        clear hVB HA
        go_upto_region 7 with fail
        rw [← hW]
        clear hW c0 c1 c2 c3 c4 c5 c6 hWB
        obtain ⟨cHXB, fHXB, sHXB, nHXB⟩ := HXB.out.all
        try simp only [cbox] at cHXB
        -- STOP-k5a
        refine region_ext (by kernel_rfl) (by kernel_rfl) (fun hext => ?_)
        repeat (any_goals ((with_reducible refine wpQuiet_step (fun K hK => ?_)); go_simp; first | (with_reducible refine hK _ ?_; clear hK K) | ((with_reducible apply Exists.intro); (with_reducible refine ⟨fun _ => ?_, hK _ ?_⟩); ((go_at_call 16; (with_reducible refine ext_call _ ?_ (HA'.out _ (Ext.below _))); simp)); clear hK K) | ((with_reducible refine (if_neg ?_).mpr (hK _ ?_)); (decide); clear hK K) | (split <;> (with_reducible refine hK _ ?_; clear hK K))))
        all_goals ((with_reducible refine wpQuiet_nil ?_); clear hext; intro w1 hx1; have hb1 := ext_below hx1; clear hx1)
        -- STOP-k5b
        clear cHXB fHXB sHXB nHXB
        have HB1 := hid hb1
        replace HXB := hid (HXB.out.step hb1)
        obtain ⟨O1, hO1⟩ : ∃ q, q = BO ++ (VB ++ B32 ++ BA) := ⟨_, rfl⟩
        have zO1 : O1.size ≤ 2030 := by rw [hO1]; simp only [ByteArray.size_append]; omega
        rw [← hO1]
        have HO1 := hid hO1
        clear hb1 hO1 g1 g2 g3 zO HA' hvc
        have h10 : (9223372036854775807 < O1.size + B10.size) = False := eq_false (by omega)
        obtain ⟨BB, hBB⟩ : ∃ q, q = bstr (Lib.itoa b) := ⟨_, rfl⟩
        have HBB := hid hBB
        have zB : BB.size ≤ 21 := by rw [hBB, bstr_size]; exact itoa21 (by omega)
        have HB := hid (fun w1 (hb : Below W.heap.size W w1) => itoaN_any b (by omega) w1 (Pow.step HT.out (Below.step' HBW.out hb)))
        rw [← hBB] at HB
        clear hBB
        have g4 : (9223372036854775807 < B32.size + BB.size) = False := eq_false (by omega)
        have g5 : (9223372036854775807 < O1.size + (B32.size + BB.size)) = False := eq_false (by omega)
        have g6 : (9223372036854775807 < O1.size + (B32.size + BB.size) + B10.size) = False := eq_false (by omega)
        obtain ⟨cHXB, fHXB, sHXB, nHXB⟩ := HXB.out.all
        try simp only [cbox] at cHXB
        go_wp2_with fail
        -- STOP-k5c
        refine (HB.out _ HB1.out).mono ?_
        rintro e w2 ⟨rfl, hb2⟩
        clear cHXB fHXB sHXB nHXB
        have HB2 := hid (Below.step' HB1.out hb2)
        clear hb2
        go_wp2_with fail
        -- STOP-k5d
        go_roundw
        case rel =>
          refine ⟨i + 1, by omega, by go_num, ?_, hid (Below.step' HBW.out HB2.out)⟩
          rw [HNO.out, HO1.out, HVB.out, H32.out, HBA.out, H10.out, HBB.out]
          simp only [ByteArray.append_assoc]
          simp only [bstr_app]
          simp [stepT, argsT, verbB, numT]
        case measure => simp [intOf]; omega
      · -- kind 6
        obtain ⟨VB, hVB⟩ : ∃ q, q = bstr (verbB 6) := ⟨_, rfl⟩
        have HVB := hid hVB
        have zV : VB.size ≤ 8 := by rw [hVB, bstr_size]; exact verbB_len _
        obtain ⟨W, hW⟩ : ∃ W : World, W = wo.alloc (.cells #[.int .i64 6, .int .i64 a, .int .i64 b, .int .i64 col, .int .i64 op, .int .i64 val, .slice xA l.length xk] 40) := ⟨_, rfl⟩
        have hWB : Below wo.heap.size wo W := by rw [hW]; exact alloc_below (Below.refl _ _) _
        have HXB := hid (show Blk W wo.heap.size #[.int .i64 6, .int .i64 a, .int .i64 b, .int .i64 col, .int .i64 op, .int .i64 val, .slice xA l.length xk] 40 by rw [hW]; exact Blk.new _ _ _)
        have hvc : W.cell? ⟨0, 6, none⟩ = some (.string VB) := by rw [hVB]; exact (HG.out.step hWB).2 6 (by omega)
        have hvl : 0 < W.heap.size := (HG.out.step hWB).1
        have hol : wo.heap.size < W.heap.size := HXB.out.lt
        have HBW := hid (Below.step' HB.out hWB)
        have HXW := hid (HXR.out.step hWB)
        have HA' := hid (fun w1 (hb : Below W.heap.size W w1) => HA.out w1 (Below.step' hWB hb))
        have g1 : (9223372036854775807 < VB.size + B32.size) = False := eq_false (by omega)
        have g2 : (9223372036854775807 < VB.size + B32.size + BA.size) = False := eq_false (by omega)
        have g3 : (9223372036854775807 < BO.size + (VB.size + B32.size + BA.size)) = False := eq_false (by omega)
        clear hVB HA
        go_upto_region 7 with fail
        rw [← hW]
        clear hW c0 c1 c2 c3 c4 c5 c6 hWB
        obtain ⟨cHXB, fHXB, sHXB, nHXB⟩ := HXB.out.all
        try simp only [cbox] at cHXB
        -- STOP-k6a
        refine region_ext (by kernel_rfl) (by kernel_rfl) (fun hext => ?_)
        repeat (any_goals ((with_reducible refine wpQuiet_step (fun K hK => ?_)); go_simp; first | (with_reducible refine hK _ ?_; clear hK K) | ((with_reducible apply Exists.intro); (with_reducible refine ⟨fun _ => ?_, hK _ ?_⟩); ((go_at_call 16; (with_reducible refine ext_call _ ?_ (HA'.out _ (Ext.below _))); simp)); clear hK K) | ((with_reducible refine (if_neg ?_).mpr (hK _ ?_)); (decide); clear hK K) | (split <;> (with_reducible refine hK _ ?_; clear hK K))))
        all_goals ((with_reducible refine wpQuiet_nil ?_); clear hext; intro w1 hx1; have hb1 := ext_below hx1; clear hx1)
        -- STOP-k6b
        clear cHXB fHXB sHXB nHXB
        have HB1 := hid hb1
        replace HXB := hid (HXB.out.step hb1)
        obtain ⟨O1, hO1⟩ : ∃ q, q = BO ++ (VB ++ B32 ++ BA) := ⟨_, rfl⟩
        have zO1 : O1.size ≤ 2030 := by rw [hO1]; simp only [ByteArray.size_append]; omega
        rw [← hO1]
        have HO1 := hid hO1
        clear hb1 hO1 g1 g2 g3 zO HA' hvc
        have h10 : (9223372036854775807 < O1.size + B10.size) = False := eq_false (by omega)
        obtain ⟨BB, hBB⟩ : ∃ q, q = bstr (Lib.itoa b) := ⟨_, rfl⟩
        have HBB := hid hBB
        have zB : BB.size ≤ 21 := by rw [hBB, bstr_size]; exact itoa21 (by omega)
        have HB := hid (fun w1 (hb : Below W.heap.size W w1) => itoaN_any b (by omega) w1 (Pow.step HT.out (Below.step' HBW.out hb)))
        rw [← hBB] at HB
        clear hBB
        have g4 : (9223372036854775807 < B32.size + BB.size) = False := eq_false (by omega)
        have g5 : (9223372036854775807 < O1.size + (B32.size + BB.size)) = False := eq_false (by omega)
        have g6 : (9223372036854775807 < O1.size + (B32.size + BB.size) + B10.size) = False := eq_false (by omega)
        obtain ⟨cHXB, fHXB, sHXB, nHXB⟩ := HXB.out.all
        try simp only [cbox] at cHXB
        go_wp2_with fail
        -- STOP-k6c
        refine (HB.out _ HB1.out).mono ?_
        rintro e w2 ⟨rfl, hb2⟩
        clear cHXB fHXB sHXB nHXB
        have HB2 := hid (Below.step' HB1.out hb2)
        clear hb2
        go_wp2_with fail
        -- STOP-k6d
        go_roundw
        case rel =>
          refine ⟨i + 1, by omega, by go_num, ?_, hid (Below.step' HBW.out HB2.out)⟩
          rw [HNO.out, HO1.out, HVB.out, H32.out, HBA.out, H10.out, HBB.out]
          simp only [ByteArray.append_assoc]
          simp only [bstr_app]
          simp [stepT, argsT, verbB, numT]
        case measure => simp [intOf]; omega
      · -- kind 7
        obtain ⟨VB, hVB⟩ : ∃ q, q = bstr (verbB 7) := ⟨_, rfl⟩
        have HVB := hid hVB
        have zV : VB.size ≤ 8 := by rw [hVB, bstr_size]; exact verbB_len _
        obtain ⟨W, hW⟩ : ∃ W : World, W = wo.alloc (.cells #[.int .i64 7, .int .i64 a, .int .i64 b, .int .i64 col, .int .i64 op, .int .i64 val, .slice xA l.length xk] 40) := ⟨_, rfl⟩
        have hWB : Below wo.heap.size wo W := by rw [hW]; exact alloc_below (Below.refl _ _) _
        have HXB := hid (show Blk W wo.heap.size #[.int .i64 7, .int .i64 a, .int .i64 b, .int .i64 col, .int .i64 op, .int .i64 val, .slice xA l.length xk] 40 by rw [hW]; exact Blk.new _ _ _)
        have hvc : W.cell? ⟨0, 7, none⟩ = some (.string VB) := by rw [hVB]; exact (HG.out.step hWB).2 7 (by omega)
        have hvl : 0 < W.heap.size := (HG.out.step hWB).1
        have hol : wo.heap.size < W.heap.size := HXB.out.lt
        have HBW := hid (Below.step' HB.out hWB)
        have HXW := hid (HXR.out.step hWB)
        have HA' := hid (fun w1 (hb : Below W.heap.size W w1) => HA.out w1 (Below.step' hWB hb))
        have g1 : (9223372036854775807 < VB.size + B32.size) = False := eq_false (by omega)
        have g2 : (9223372036854775807 < VB.size + B32.size + BA.size) = False := eq_false (by omega)
        have g3 : (9223372036854775807 < BO.size + (VB.size + B32.size + BA.size)) = False := eq_false (by omega)
        clear hVB HA
        go_upto_region 7 with fail
        rw [← hW]
        clear hW c0 c1 c2 c3 c4 c5 c6 hWB
        obtain ⟨cHXB, fHXB, sHXB, nHXB⟩ := HXB.out.all
        try simp only [cbox] at cHXB
        -- STOP-k7a
        refine region_ext (by kernel_rfl) (by kernel_rfl) (fun hext => ?_)
        repeat (any_goals ((with_reducible refine wpQuiet_step (fun K hK => ?_)); go_simp; first | (with_reducible refine hK _ ?_; clear hK K) | ((with_reducible apply Exists.intro); (with_reducible refine ⟨fun _ => ?_, hK _ ?_⟩); ((go_at_call 16; (with_reducible refine ext_call _ ?_ (HA'.out _ (Ext.below _))); simp)); clear hK K) | ((with_reducible refine (if_neg ?_).mpr (hK _ ?_)); (decide); clear hK K) | (split <;> (with_reducible refine hK _ ?_; clear hK K))))
        all_goals ((with_reducible refine wpQuiet_nil ?_); clear hext; intro w1 hx1; have hb1 := ext_below hx1; clear hx1)
        -- STOP-k7b
        clear cHXB fHXB sHXB nHXB
        have HB1 := hid hb1
        replace HXB := hid (HXB.out.step hb1)
        obtain ⟨O1, hO1⟩ : ∃ q, q = BO ++ (VB ++ B32 ++ BA) := ⟨_, rfl⟩
        have zO1 : O1.size ≤ 2030 := by rw [hO1]; simp only [ByteArray.size_append]; omega
        rw [← hO1]
        have HO1 := hid hO1
        clear hb1 hO1 g1 g2 g3 zO HA' hvc
        have h10 : (9223372036854775807 < O1.size + B10.size) = False := eq_false (by omega)
        obtain ⟨cHXB, fHXB, sHXB, nHXB⟩ := HXB.out.all
        try simp only [cbox] at cHXB
        go_wp2_with fail
        -- STOP-k7c
        go_roundw
        case rel =>
          refine ⟨i + 1, by omega, by go_num, ?_, hid (Below.step' HBW.out HB1.out)⟩
          rw [HNO.out, HO1.out, HVB.out, H32.out, HBA.out, H10.out]
          simp only [ByteArray.append_assoc]
          simp only [bstr_app]
          simp [stepT, argsT, verbB, numT]
        case measure => simp [intOf]; omega
      · -- kind 8
        obtain ⟨VB, hVB⟩ : ∃ q, q = bstr (verbB 8) := ⟨_, rfl⟩
        have HVB := hid hVB
        have zV : VB.size ≤ 8 := by rw [hVB, bstr_size]; exact verbB_len _
        obtain ⟨W, hW⟩ : ∃ W : World, W = wo.alloc (.cells #[.int .i64 8, .int .i64 a, .int .i64 b, .int .i64 col, .int .i64 op, .int .i64 val, .slice xA l.length xk] 40) := ⟨_, rfl⟩
        have hWB : Below wo.heap.size wo W := by rw [hW]; exact alloc_below (Below.refl _ _) _
        have HXB := hid (show Blk W wo.heap.size #[.int .i64 8, .int .i64 a, .int .i64 b, .int .i64 col, .int .i64 op, .int .i64 val, .slice xA l.length xk] 40 by rw [hW]; exact Blk.new _ _ _)
        have hvc : W.cell? ⟨0, 8, none⟩ = some (.string VB) := by rw [hVB]; exact (HG.out.step hWB).2 8 (by omega)
        have hvl : 0 < W.heap.size := (HG.out.step hWB).1
        have hol : wo.heap.size < W.heap.size := HXB.out.lt
        have HBW := hid (Below.step' HB.out hWB)
        have HXW := hid (HXR.out.step hWB)
        have HA' := hid (fun w1 (hb : Below W.heap.size W w1) => HA.out w1 (Below.step' hWB hb))
        have g1 : (9223372036854775807 < VB.size + B32.size) = False := eq_false (by omega)
        have g2 : (9223372036854775807 < VB.size + B32.size + BA.size) = False := eq_false (by omega)
        have g3 : (9223372036854775807 < BO.size + (VB.size + B32.size + BA.size)) = False := eq_false (by omega)
        clear hVB HA
        go_upto_region 7 with fail
        rw [← hW]
        clear hW c0 c1 c2 c3 c4 c5 c6 hWB
        obtain ⟨cHXB, fHXB, sHXB, nHXB⟩ := HXB.out.all
        try simp only [cbox] at cHXB
        -- STOP-k8a
        refine region_ext (by kernel_rfl) (by kernel_rfl) (fun hext => ?_)
        repeat (any_goals ((with_reducible refine wpQuiet_step (fun K hK => ?_)); go_simp; first | (with_reducible refine hK _ ?_; clear hK K) | ((with_reducible apply Exists.intro); (with_reducible refine ⟨fun _ => ?_, hK _ ?_⟩); ((go_at_call 16; (with_reducible refine ext_call _ ?_ (HA'.out _ (Ext.below _))); simp)); clear hK K) | ((with_reducible refine (if_neg ?_).mpr (hK _ ?_)); (decide); clear hK K) | (split <;> (with_reducible refine hK _ ?_; clear hK K))))
        all_goals ((with_reducible refine wpQuiet_nil ?_); clear hext; intro w1 hx1; have hb1 := ext_below hx1; clear hx1)
        -- STOP-k8b
        clear cHXB fHXB sHXB nHXB
        have HB1 := hid hb1
        replace HXB := hid (HXB.out.step hb1)
        obtain ⟨O1, hO1⟩ : ∃ q, q = BO ++ (VB ++ B32 ++ BA) := ⟨_, rfl⟩
        have zO1 : O1.size ≤ 2030 := by rw [hO1]; simp only [ByteArray.size_append]; omega
        rw [← hO1]
        have HO1 := hid hO1
        clear hb1 hO1 g1 g2 g3 zO HA' hvc
        have h10 : (9223372036854775807 < O1.size + B10.size) = False := eq_false (by omega)
        obtain ⟨BC, hBC⟩ : ∃ q, q = bstr (Lib.itoa col) := ⟨_, rfl⟩
        have HBC := hid hBC
        have zC : BC.size ≤ 21 := by rw [hBC, bstr_size]; exact itoa21 (by omega)
        have HC := hid (fun w1 (hb : Below W.heap.size W w1) => itoaN_any col (by omega) w1 (Pow.step HT.out (Below.step' HBW.out hb)))
        rw [← hBC] at HC
        clear hBC
        have g4 : (9223372036854775807 < B32.size + BC.size) = False := eq_false (by omega)
        have g5 : (9223372036854775807 < O1.size + (B32.size + BC.size)) = False := eq_false (by omega)
        have g6 : (9223372036854775807 < O1.size + (B32.size + BC.size) + B10.size) = False := eq_false (by omega)
        obtain ⟨cHXB, fHXB, sHXB, nHXB⟩ := HXB.out.all
        try simp only [cbox] at cHXB
        go_wp2_with fail
        -- STOP-k8c
        refine (HC.out _ HB1.out).mono ?_
        rintro e w2 ⟨rfl, hb2⟩
        clear cHXB fHXB sHXB nHXB
        have HB2 := hid (Below.step' HB1.out hb2)
        clear hb2
        go_wp2_with fail
        -- STOP-k8d
        go_roundw
        case rel =>
          refine ⟨i + 1, by omega, by go_num, ?_, hid (Below.step' HBW.out HB2.out)⟩
          rw [HNO.out, HO1.out, HVB.out, H32.out, HBA.out, H10.out, HBC.out]
          simp only [ByteArray.append_assoc]
          simp only [bstr_app]
          simp [stepT, argsT, verbB, numT]
        case measure => simp [intOf]; omega
      · -- kind 9
        obtain ⟨VB, hVB⟩ : ∃ q, q = bstr (verbB 9) := ⟨_, rfl⟩
        have HVB := hid hVB
        have zV : VB.size ≤ 8 := by rw [hVB, bstr_size]; exact verbB_len _
        obtain ⟨W, hW⟩ : ∃ W : World, W = wo.alloc (.cells #[.int .i64 9, .int .i64 a, .int .i64 b, .int .i64 col, .int .i64 op, .int .i64 val, .slice xA l.length xk] 40) := ⟨_, rfl⟩
        have hWB : Below wo.heap.size wo W := by rw [hW]; exact alloc_below (Below.refl _ _) _
        have HXB := hid (show Blk W wo.heap.size #[.int .i64 9, .int .i64 a, .int .i64 b, .int .i64 col, .int .i64 op, .int .i64 val, .slice xA l.length xk] 40 by rw [hW]; exact Blk.new _ _ _)
        have hvc : W.cell? ⟨0, 9, none⟩ = some (.string VB) := by rw [hVB]; exact (HG.out.step hWB).2 9 (by omega)
        have hvl : 0 < W.heap.size := (HG.out.step hWB).1
        have hol : wo.heap.size < W.heap.size := HXB.out.lt
        have HBW := hid (Below.step' HB.out hWB)
        have HXW := hid (HXR.out.step hWB)
        have HA' := hid (fun w1 (hb : Below W.heap.size W w1) => HA.out w1 (Below.step' hWB hb))
        have g1 : (9223372036854775807 < VB.size + B32.size) = False := eq_false (by omega)
        have g2 : (9223372036854775807 < VB.size + B32.size + BA.size) = False := eq_false (by omega)
        have g3 : (9223372036854775807 < BO.size + (VB.size + B32.size + BA.size)) = False := eq_false (by omega)
        clear hVB HA
        go_upto_region 7 with fail
        rw [← hW]
        clear hW c0 c1 c2 c3 c4 c5 c6 hWB
        obtain ⟨cHXB, fHXB, sHXB, nHXB⟩ := HXB.out.all
        try simp only [cbox] at cHXB
        -- STOP-k9a
        refine region_ext (by kernel_rfl) (by kernel_rfl) (fun hext => ?_)
        repeat (any_goals ((with_reducible refine wpQuiet_step (fun K hK => ?_)); go_simp; first | (with_reducible refine hK _ ?_; clear hK K) | ((with_reducible apply Exists.intro); (with_reducible refine ⟨fun _ => ?_, hK _ ?_⟩); ((go_at_call 16; (with_reducible refine ext_call _ ?_ (HA'.out _ (Ext.below _))); simp)); clear hK K) | ((with_reducible refine (if_neg ?_).mpr (hK _ ?_)); (decide); clear hK K) | (split <;> (with_reducible refine hK _ ?_; clear hK K))))
        all_goals ((with_reducible refine wpQuiet_nil ?_); clear hext; intro w1 hx1; have hb1 := ext_below hx1; clear hx1)
        -- STOP-k9b
        clear cHXB fHXB sHXB nHXB
        have HB1 := hid hb1
        replace HXB := hid (HXB.out.step hb1)
        obtain ⟨O1, hO1⟩ : ∃ q, q = BO ++ (VB ++ B32 ++ BA) := ⟨_, rfl⟩
        have zO1 : O1.size ≤ 2030 := by rw [hO1]; simp only [ByteArray.size_append]; omega
        rw [← hO1]
        have HO1 := hid hO1
        clear hb1 hO1 g1 g2 g3 zO HA' hvc
        have h10 : (9223372036854775807 < O1.size + B10.size) = False := eq_false (by omega)
        obtain ⟨BC, hBC⟩ : ∃ q, q = bstr (Lib.itoa col) := ⟨_, rfl⟩
        have HBC := hid hBC
        have zC : BC.size ≤ 21 := by rw [hBC, bstr_size]; exact itoa21 (by omega)
        have HC := hid (fun w1 (hb : Below W.heap.size W w1) => itoaN_any col (by omega) w1 (Pow.step HT.out (Below.step' HBW.out hb)))
        rw [← hBC] at HC
        clear hBC
        obtain ⟨BE, hBE⟩ : ∃ q, q = bstr (Lib.itoa val) := ⟨_, rfl⟩
        have HBE := hid hBE
        have zE : BE.size ≤ 21 := by rw [hBE, bstr_size]; exact itoa21 (by omega)
        have HE := hid (fun w1 (hb : Below W.heap.size W w1) => itoaN_any val (by omega) w1 (Pow.step HT.out (Below.step' HBW.out hb)))
        rw [← hBE] at HE
        clear hBE
        have g4 : (9223372036854775807 < B32.size + BC.size) = False := eq_false (by omega)
        have g5a : (9223372036854775807 < B32.size + BC.size + B32.size) = False := eq_false (by omega)
        have g5b : (9223372036854775807 < B32.size + BC.size + B32.size + BE.size) = False := eq_false (by omega)
        have g8 : (9223372036854775807 < O1.size + (B32.size + BC.size + B32.size + BE.size)) = False := eq_false (by omega)
        have g9 : (9223372036854775807 < O1.size + (B32.size + BC.size + B32.size + BE.size) + B10.size) = False := eq_false (by omega)
        obtain ⟨cHXB, fHXB, sHXB, nHXB⟩ := HXB.out.all
        try simp only [cbox] at cHXB
        go_wp2_with fail
        -- STOP-k9c
        refine region_ext (by kernel_rfl) (by kernel_rfl) (fun hext => ?_)
        repeat (any_goals ((with_reducible refine wpQuiet_step (fun K hK => ?_)); go_simp; first | (with_reducible refine hK _ ?_; clear hK K) | ((with_reducible apply Exists.intro); (with_reducible refine ⟨fun _ => ?_, hK _ ?_⟩); (first | (go_at_call 16; (with_reducible refine ext_call _ ?_ (HC.out _ (Below.step' HB1.out (Ext.below _)))); simp) | (go_at_call 16; (with_reducible refine ext_call _ ?_ (HE.out _ (Below.step' HB1.out (Ext.below _)))); simp)); clear hK K) | ((with_reducible refine (if_neg ?_).mpr (hK _ ?_)); (decide); clear hK K) | (split <;> (with_reducible refine hK _ ?_; clear hK K))))
        all_goals ((with_reducible refine wpQuiet_nil ?_); clear hext; intro w1 hx1; have hb1 := ext_below hx1; clear hx1)
        clear cHXB fHXB sHXB nHXB
        have HB2 := hid (Below.step' HB1.out hb1)
        clear hb1
        go_wp2_with fail
        -- STOP-k9d
        go_roundw
        case rel =>
          refine ⟨i + 1, by omega, by go_num, ?_, hid (Below.step' HBW.out HB2.out)⟩
          rw [HNO.out, HO1.out, HVB.out, H32.out, HBA.out, H10.out, HBC.out, HBE.out]
          simp only [ByteArray.append_assoc]
          simp only [bstr_app]
          simp [stepT, argsT, verbB, numT]
        case measure => simp [intOf]; omega
    · have t1 : ((i : Int) < (L.length : Int)) = False := eq_false (by omega)
      have hil : L.take i = L := List.take_of_length_le (by omega)
      rw [hil]
      go_wp2_with fail
      -- STOP-z
      go_ret
      exact ⟨rfl, HB.out⟩
end Go.Proofs.YtamlaeocojcgdaaDoor
