/- MdE, MdF, RwS, Pys -/
import Derived.Test.YtldlmkfigjicgaaGreatDoorIncPlaysCardS22
/- viewref.made: sum. -/
namespace Go.Proofs.YtldlmkfigjicgaaGreatDoor
set_option linter.unusedVariables false
set_option linter.unusedSimpArgs false
open Go.ChangeShapes Go.WideShapes Go.ChangeAt Go.RowKit

set_option maxHeartbeats 1000000 in
set_option maxRecDepth 100000 in
theorem made_k9 (sa sb sc so sv : Int) (sl : List Int) (sA : Option Addr) (sK : Nat) (M1 M2 : List IR) (A1 A2 : Option Addr) (c1 c2 : Nat) (w : World) (hr : RowI w w.heap.size A1 M1) (hl : M1.length ≤ 800) (hc : 0 ≤ sc ∧ ∀ y ∈ M1, sc < (y.row.length : Int)) (hv : 0 ≤ sv ∧ ∀ y ∈ M1, sv < (y.row.length : Int)) :
    Calls Tryz.prog 57 #[.agg #[.int .i64 9, .int .i64 sa, .int .i64 sb, .int .i64 sc, .int .i64 so, .int .i64 sv, .slice sA sl.length sK], .slice A1 M1.length c1, .slice A2 M2.length c2] w (PermPost (groupL ⟨9, sa, sb, sc, so, sv, sl⟩ (its M1)) w) := by
  obtain ⟨hc0, hc1⟩ := hc
  obtain ⟨hv0, hv1⟩ := hv
  obtain ⟨jc, rfl⟩ : ∃ j : Nat, sc = (j : Int) := ⟨sc.toNat, by omega⟩
  obtain ⟨jv, rfl⟩ : ∃ j : Nat, sv = (j : Int) := ⟨sv.toNat, by omega⟩
  have HR := hid hr
  have HC := hid hc1
  have HV := hid hv1
  obtain ⟨s, hs⟩ : ∃ s : St, s = ⟨9, sa, sb, (jc : Int), so, (jv : Int), sl⟩ := ⟨_, rfl⟩
  have HSN := hid (fun (A : List It) (x : It) (k : Int) => show grpN s (A ++ [x]) k = if colD x.1 (jc : Int) = k then wrp (grpN s A k + x.2) else grpN s A k by rw [show (jc : Int) = s.col by rw [hs]]; exact grpN_snoc s A x k)
  have HSS := hid (fun (A : List It) (x : It) (k : Int) => show grpS s (A ++ [x]) k = if colD x.1 (jc : Int) = k then wrp (grpS s A k + wrp (x.2 * colD x.1 (jv : Int))) else grpS s A k by rw [show (jc : Int) = s.col by rw [hs], show (jv : Int) = s.val by rw [hs]]; exact grpS_snoc s A x k (by rw [hs]))
  have HS0 := hid (fun k => show grpS s [] k = 0 by unfold grpS; rw [if_pos (by rw [hs])]; rfl)
  have HTL := hid (fun q n m => show toldL s q n m = if n = 0 then [] else [([q, m], 1)] by unfold toldL; rw [show s.kind = 9 by rw [hs]]; simp)
  have HN0 := hid (fun k => show grpN s [] k = 0 by unfold grpN totF; rfl)
  have HPM := hid (show (grpsL s (its M1) (onceI (M1.map (fun x => colD x.row (jc : Int))))).Perm (groupL s (its M1)) by
    have := grps_perm s (its M1)
    rw [show s.col = (jc : Int) by rw [hs]] at this
    simpa [its, Function.comp_def] using this)
  rw [← hs]
  clear hs hr hc1 hv1
  obtain ⟨W1, hW1⟩ : ∃ W1 : World, W1 = w.alloc (.cells #[.int .i64 9, .int .i64 sa, .int .i64 sb, .int .i64 (jc : Int), .int .i64 so, .int .i64 (jv : Int), .slice sA sl.length sK] 89) := ⟨_, rfl⟩
  have HX := hid (show Blk W1 w.heap.size #[.int .i64 9, .int .i64 sa, .int .i64 sb, .int .i64 (jc : Int), .int .i64 so, .int .i64 (jv : Int), .slice sA sl.length sK] 89 by rw [hW1]; exact Blk.new _ _ _)
  have HB1 := hid (show Below w.heap.size w W1 by rw [hW1]; (repeat' (first | (with_reducible exact Below.refl _ _) | (with_reducible assumption) | (with_reducible refine below_drewN ?_ _) | (with_reducible refine Below.drew ?_) | (with_reducible refine Below.alloc ?_ ?_ _) | (with_reducible refine Below.setCell ?_ ?_ _) | (refine Below.trans ?_ (Below.mono (by assumption) ?_)) | go_size)))
  have hs1 := HB1.out.size
  go_enter Tryz.func57, Tryz.ntmps57
  go_wp2_with fail
  rw [← hW1]
  clear hW1
  -- STOP-a
  go_loopw [7, 8, 9] (fun s7 s8 s9 wr => ∃ i : Nat, i ≤ M1.length ∧ s9 = .int .i64 i ∧ s7 = .slice none 0 0 ∧ Hid (wr.ownsRow W1.heap.size 3 1 s8 i (icells' ((M1.take i).map (fun x => colD x.row (jc : Int))))) ∧ Hid (Below W1.heap.size W1 wr)) (fun _ _ s9 _ => M1.length - (intOf s9).toNat)
  case atStart => exact ⟨0, by omega, rfl, rfl, hid (by simpa using World.ownsRow_nil _ _ _ _), hid (Below.refl _ _)⟩
  case round =>
    obtain ⟨i, hi, rfl, rfl, HOWN, HB⟩ := hrel
    obtain ⟨A5, c5, rfl⟩ := own_formS HOWN.out
    have hsw := HB.out.size
    have HBW := hid (Below.step' HB1.out HB.out)
    by_cases hlt : i < M1.length
    · obtain ⟨b, off, rfl, hb, e0, e1⟩ := (HR.out.1.step HBW.out).it hlt
      have hcx := HC.out M1[i] (List.getElem_mem hlt)
      obtain ⟨xl, xll⟩ := (HR.out.2.step HBW.out) M1[i] (List.getElem_mem hlt)
      have HFI := hid (show (M1.take (i + 1)).map (fun x => colD x.row (jc : Int)) = (M1.take i).map (fun x => colD x.row (jc : Int)) ++ [colD M1[i].row (jc : Int)] by rw [List.take_succ_eq_append_getElem hlt, List.map_append]; rfl)
      generalize M1[i] = x at *
      obtain ⟨xr, xA, xk, xn⟩ := x
      simp only at e0 e1 xl xll hcx HFI
      have hj : jc < xr.length := by omega
      obtain ⟨b2, o2, rfl, hb2, hv2⟩ := xl.int' hj
      have hcd : colD xr (jc : Int) = xr[jc] := by unfold colD; rw [Int.toNat_natCast, List.getD_eq_getElem?_getD, List.getElem?_eq_getElem hj]; rfl
      rw [hcd] at HFI
      generalize xr[jc] = u at *
      have hneb2 : (b2 = wr.heap.size) = False := by simp; omega
      have hjl : (jc : Int) < (xr.length : Int) := by omega
      clear hcd hcx xl
      have hneb : (b = wr.heap.size) = False := by simp; omega
      obtain ⟨O, hO⟩ : ∃ O, O = (M1.take i).map (fun x => colD x.row (jc : Int)) := ⟨_, rfl⟩
      rw [← hO] at HOWN HFI
      clear hO
      obtain ⟨wo, rfl⟩ : ∃ wx : World, wx = wr := ⟨_, rfl⟩
      have HXO := hid (HX.out.step HB.out)
      obtain ⟨W2, hW2⟩ : ∃ W2 : World, W2 = wo.alloc (.cells #[.slice (some ⟨b2, o2, none⟩) xr.length xk, .int .i64 xn] 67) := ⟨_, rfl⟩
      have HX2 := hid (show Blk W2 wo.heap.size #[.slice (some ⟨b2, o2, none⟩) xr.length xk, .int .i64 xn] 67 by rw [hW2]; exact Blk.new _ _ _)
      have HBO := hid (show Below wo.heap.size wo W2 by rw [hW2]; exact alloc_below (Below.refl _ _) _)
      have HO2 := hid (show W2.ownsRow W1.heap.size 3 1 (.slice A5 i c5) i (icells' O) by rw [hW2]; exact HOWN.out.alloc _)
      replace HXO := hid (HXO.out.step HBO.out)
      have hv3 := ((bcell HBO.out).1 b2 _ hb2).trans hv2
      have hb3 : b2 < W2.heap.size := Nat.lt_of_lt_of_le hb2 HBO.out.size
      go_upto_region 7 with fail
      rw [← hW2]
      clear hW2 hv2 e0 e1
      obtain ⟨cHXO, fHXO, sHXO, nHXO⟩ := HXO.out.all
      try simp only [cbox] at cHXO
      obtain ⟨cHX2, fHX2, sHX2, nHX2⟩ := HX2.out.all
      try simp only [cbox] at cHX2
      -- STOP-b
      go_wp2_with (at_builtin; refine wpList_append_row elem_int rfl _ _ rfl W1.heap.size _ _ _ rfl (HO2.out.alloc _) (some ⟨W2.heap.size, 0, none⟩) 1 1 (W2.heap.size + 1) (icells' [u]) rfl rfl (by exact Row.new' W2 _ _ rfl rfl (Nat.lt_succ_self _)) (icellsQ_one [u]) ?_ ?_ ?_ ?_; rotate_right; intro v7 w7 hown7 hg7 hif7; rotate_left; (simp only [maxLen]; omega); (omega); (have := HBO.out.size; simp; omega))
      have HOW7 := hid hown7
      have HG7 := hid hg7
      clear hown7 hg7 hif7
      go_roundw
      case rel =>
        refine ⟨i + 1, by omega, by go_num, by first | rfl | trivial, hid ?_, hid (Below.grown (alloc_below (HB.out.trans (HBO.out.mono hsw)) _) HG7.out (by have := HBO.out.size; simp; omega) (fun g e => (HO2.out.lt g e).1))⟩
        rw [HFI.out, icellsQ_snoc]
        exact HOW7.out
      case measure => simp [intOf]; omega
    · have hik : i = M1.length := by omega
      subst hik
      rw [List.take_length] at HOWN
      have HXE := hid (HX.out.step HB.out)
      have hkl : (M1.map (fun x => colD x.row (jc : Int))).length = M1.length := List.length_map ..
      have HON := hid (once_any (M1.map (fun x => colD x.row (jc : Int))) A5 c5 wr (Row.of_ownS HOWN.out) (by omega))
      rw [hkl] at HON
      have hKl := once_lenI (M1.map (fun x => colD x.row (jc : Int)))
      rw [hkl] at hKl
      obtain ⟨K, hK⟩ : ∃ K, K = onceI (M1.map (fun x => colD x.row (jc : Int))) := ⟨_, rfl⟩
      rw [← hK] at HON HPM hKl
      clear hK hkl
      obtain ⟨cHXE, fHXE, sHXE, nHXE⟩ := HXE.out.all
      try simp only [cbox] at cHXE
      go_wp2_with fail
      -- STOP-c
      refine HON.out.mono ?_
      rintro e w2 ⟨vK, rfl, hoK, hbK⟩
      obtain ⟨AK, cK, rfl⟩ := own_formS hoK
      have HBK := hid hbK
      have HXK := hid (HXE.out.step hbK)
      have HRK := hid (show Row w2 w2.heap.size AK (icells' K) from Row.of_ownS hoK)
      have HBWK := hid (Below.step' HBW.out hbK)
      clear cHXE fHXE sHXE nHXE
      clear hoK hbK
      go_wp2_with fail
      -- STOP-d
      go_loopw [7, 15] (fun s7 s15 wr => ∃ (k : Nat) (S : List IR), k ≤ K.length ∧ s15 = .int .i64 k ∧ S.length ≤ k ∧ Hid (its S = grpsL s (its M1) (K.take k)) ∧ Hid (wr.ownsRow w2.heap.size 67 2 s7 S.length (rcells S)) ∧ Hid (RowsNew wr w2.heap.size s7 S) ∧ Hid (Below w2.heap.size w2 wr)) (fun _ s15 _ => K.length - (intOf s15).toNat)
      case atStart => exact ⟨0, [], by omega, rfl, by simp, hid (by simp [its, grpsL]), hid (World.ownsRow_nil _ _ _ _), hid (RowsNew.nil _ _ _), hid (Below.refl _ _)⟩
      case round =>
        obtain ⟨k, S, hk, rfl, hSk, HIS, HOS, HNS, HBS⟩ := hrel
        obtain ⟨A7, c7, rfl⟩ := own_formS HOS.out
        obtain ⟨wk, rfl⟩ : ∃ wx : World, wx = wr := ⟨_, rfl⟩
        have hsk := HBS.out.size
        have HB9 := hid (Below.step' HBWK.out HBS.out)
        have HXS := hid (HXK.out.step HBS.out)
        by_cases hkl : k < K.length
        · have t1 : ((k : Int) < (K.length : Int)) = True := eq_true (by omega)
          obtain ⟨bK, oK, rfl, hbK, hvK⟩ := (HRK.out.step HBS.out).int' hkl
          have HSS4 := hid (grpsL_snoc s (its M1) K k hkl)
          generalize K[k] = q at *
          go_wp2_with fail
          -- STOP-e
          go_loopw [16, 17, 18] (fun s16 s17 s18 wr => ∃ (i : Nat) (n m : Int) (nw : Nat), i ≤ M1.length ∧ s18 = .int .i64 i ∧ s16 = .int .i64 n ∧ s17 = .int .i64 m ∧ Hid (n = grpN s (its (M1.take i)) q) ∧ Hid (m = grpS s (its (M1.take i)) q) ∧ wr = wk.drewN nw) (fun _ _ s18 _ => M1.length - (intOf s18).toNat)
          case atStart => exact ⟨0, 0, 0, 0, by omega, rfl, rfl, rfl, hid (by simpa using (HN0.out q).symm), hid (by simpa using (HS0.out q).symm), rfl⟩
          case round =>
            obtain ⟨i, n, m, nw, hi, rfl, rfl, rfl, HGN, HGS, rfl⟩ := hrel
            by_cases hlt : i < M1.length
            · have t2 : ((i : Int) < (M1.length : Int)) = True := eq_true (by omega)
              obtain ⟨b, off, rfl, hb, e0, e1⟩ := (HR.out.1.step HB9.out).it hlt
              have hcx := HC.out M1[i] (List.getElem_mem hlt)
              have hvx := HV.out M1[i] (List.getElem_mem hlt)
              obtain ⟨xl, xll⟩ := (HR.out.2.step HB9.out) M1[i] (List.getElem_mem hlt)
              have HTI := hid (show its (M1.take (i + 1)) = its (M1.take i) ++ [M1[i].it] by rw [List.take_succ_eq_append_getElem hlt, its, List.map_append]; rfl)
              generalize M1[i] = x at *
              obtain ⟨xr, xA, xk, xn⟩ := x
              simp only [IR.it] at e0 e1 xl xll hcx hvx HTI
              have hj : jc < xr.length := by omega
              have hj2 : jv < xr.length := by omega
              obtain ⟨b2, o2, rfl, hb2, hv2⟩ := xl.int' hj
              obtain ⟨b2', o2', hA2, hb2', hv2'⟩ := xl.int' hj2
              injection hA2 with hA2
              injection hA2 with hA2 hA2'
              subst hA2 hA2'
              have HCD := hid (show colD xr (jc : Int) = xr[jc] by unfold colD; rw [Int.toNat_natCast, List.getD_eq_getElem?_getD, List.getElem?_eq_getElem hj]; rfl)
              have HCV := hid (show colD xr (jv : Int) = xr[jv] by unfold colD; rw [Int.toNat_natCast, List.getD_eq_getElem?_getD, List.getElem?_eq_getElem hj2]; rfl)
              generalize xr[jc] = u at *
              generalize xr[jv] = v at *
              have hjl : (jc : Int) < (xr.length : Int) := by omega
              have hjl2 : (jv : Int) < (xr.length : Int) := by omega
              have HNI := hid (show grpN s (its (M1.take (i + 1))) q = if u = q then wrp (n + xn) else n by rw [HTI.out, HSN.out, HCD.out, ← HGN.out])
              have HSI := hid (show grpS s (its (M1.take (i + 1))) q = if u = q then wrp (m + wrp (xn * v)) else m by rw [HTI.out, HSS.out, HCD.out, HCV.out, ← HGS.out])
              clear hcx hvx hb2' xl
              obtain ⟨cHXS, fHXS, sHXS, nHXS⟩ := HXS.out.all
              try simp only [cbox] at cHXS
              by_cases quq : u = q
              · have t3 : (u == q) = true := by simp [quq]
                replace HNI := hid (HNI.out.trans (if_pos quq))
                replace HSI := hid (HSI.out.trans (if_pos quq))
                obtain ⟨n2, hn2⟩ : ∃ z, z = wrp (n + xn) := ⟨_, rfl⟩
                have hwn : IntKind.i64.wrap (n + xn) = n2 := hn2.symm
                obtain ⟨p2, hp2⟩ : ∃ z, z = wrp (xn * v) := ⟨_, rfl⟩
                have hwp : IntKind.i64.wrap (xn * v) = p2 := hp2.symm
                obtain ⟨m2, hm2⟩ : ∃ z, z = wrp (m + p2) := ⟨_, rfl⟩
                have hwm : IntKind.i64.wrap (m + p2) = m2 := hm2.symm
                rw [← hn2] at HNI
                rw [← hp2, ← hm2] at HSI
                clear quq hn2 hp2 hm2
                go_wp2_with fail
                -- STOP-f
                refine wp_region_quiet_lit (by kernel_rfl) (by kernel_rfl) ?_
                repeat (any_goals ((with_reducible refine wpQuiet_step (fun K hK => ?_)); go_simp; first | (with_reducible refine hK _ ?_; clear hK K) | ((with_reducible apply Exists.intro); (with_reducible refine ⟨fun _ => ?_, hK _ ?_⟩); (fail); clear hK K) | ((with_reducible refine (if_neg ?_).mpr (hK _ ?_)); (decide); clear hK K) | (split <;> (with_reducible refine hK _ ?_; clear hK K))))
                all_goals ((with_reducible refine wpQuiet_nil ?_); intro _ hw'; obtain ⟨nq, hw''⟩ := hw'; subst hw'')
                go_wp2_with fail
                -- STOP-g
                refine wp_region_quiet_lit (by kernel_rfl) (by kernel_rfl) ?_
                repeat (any_goals ((with_reducible refine wpQuiet_step (fun K hK => ?_)); go_simp; first | (with_reducible refine hK _ ?_; clear hK K) | ((with_reducible apply Exists.intro); (with_reducible refine ⟨fun _ => ?_, hK _ ?_⟩); (fail); clear hK K) | ((with_reducible refine (if_neg ?_).mpr (hK _ ?_)); (decide); clear hK K) | (split <;> (with_reducible refine hK _ ?_; clear hK K))))
                all_goals ((with_reducible refine wpQuiet_nil ?_); intro _ hw'; obtain ⟨nq, hw''⟩ := hw'; subst hw'')
                go_wp2_with fail
                -- STOP-h
                go_roundw
                case rel => exact ⟨i + 1, n2, m2, _, by omega, by go_num, by first | rfl | trivial, by first | rfl | trivial, hid HNI.out.symm, hid HSI.out.symm, by first | rfl | exact drewN3 _ _ _ _ | exact drewN2 _ _ _⟩
                case measure => simp [intOf]; omega
              · have t3 : (u == q) = false := by simp [quq]
                replace HNI := hid (HNI.out.trans (if_neg quq))
                replace HSI := hid (HSI.out.trans (if_neg quq))
                clear quq
                go_wp2_with fail
                refine wp_region_quiet_lit (by kernel_rfl) (by kernel_rfl) ?_
                repeat (any_goals ((with_reducible refine wpQuiet_step (fun K hK => ?_)); go_simp; first | (with_reducible refine hK _ ?_; clear hK K) | ((with_reducible apply Exists.intro); (with_reducible refine ⟨fun _ => ?_, hK _ ?_⟩); (fail); clear hK K) | ((with_reducible refine (if_neg ?_).mpr (hK _ ?_)); (decide); clear hK K) | (split <;> (with_reducible refine hK _ ?_; clear hK K))))
                all_goals ((with_reducible refine wpQuiet_nil ?_); intro _ hw'; obtain ⟨nq, hw''⟩ := hw'; subst hw'')
                go_wp2_with fail
                -- STOP-i
                go_roundw
                case rel => exact ⟨i + 1, n, m, _, by omega, by go_num, by first | rfl | trivial, by first | rfl | trivial, hid HNI.out.symm, hid HSI.out.symm, by first | rfl | exact drewN2 _ _ _⟩
                case measure => simp [intOf]; omega
            · have t2 : ((i : Int) < (M1.length : Int)) = False := eq_false (by omega)
              have hie : i = M1.length := by omega
              have HGN2 := hid (show n = grpN s (its M1) q by rw [HGN.out, hie, List.take_length])
              have HGS2 := hid (show m = grpS s (its M1) q by rw [HGS.out, hie, List.take_length])
              have HBD := hid (show Below wk.heap.size wk (wk.drewN nw) from below_drewN (Below.refl _ _) nw)
              obtain ⟨wd, hwd⟩ : ∃ wd, wd = wk.drewN nw := ⟨_, rfl⟩
              rw [← hwd] at HBD ⊢
              have HXD := hid (HXS.out.step HBD.out)
              have HOD := hid (own_laterS HOS.out HBD.out)
              have hsd := HBD.out.size
              have hvd := ((bcell HBD.out).1 bK _ hbK).trans hvK
              have hbd : bK < wd.heap.size := Nat.lt_of_lt_of_le hbK hsd
              clear hwd HGN
              obtain ⟨cHXD, fHXD, sHXD, nHXD⟩ := HXD.out.all
              try simp only [cbox] at cHXD
              by_cases hn0 : n = 0
              · have t3 : (n != 0) = false := by simp [hn0]
                replace HSS4 := hid (show grpsL s (its M1) (K.take (k + 1)) = grpsL s (its M1) (K.take k) by rw [HSS4.out, HTL.out, if_pos (by rw [← HGN2.out]; exact hn0), List.append_nil])
                clear hn0
                go_wp2_with fail
                -- STOP-j
                go_roundw
                case rel => exact ⟨k + 1, S, by omega, by go_num, by omega, hid (by rw [HIS.out, HSS4.out]), hid HOD.out, hid (HNS.out.step HBD.out), hid (Below.step' HBS.out HBD.out)⟩
                case measure => simp [intOf]; omega
              · have t3 : (n != 0) = true := by simpa using hn0
                replace HSS4 := hid (show grpsL s (its M1) (K.take (k + 1)) = grpsL s (its M1) (K.take k) ++ [([q, m], 1)] by rw [HSS4.out, HTL.out, if_neg (by rw [← HGN2.out]; exact hn0), ← HGS2.out])
                clear hn0
                have HRN := hid (Row.new' wd #[.int .i64 q, .int .i64 m] 3 rfl rfl (Nat.lt_succ_self _))
                go_wp2_with (at_builtin; refine wpList_append_row elem_item rfl _ _ rfl w2.heap.size _ _ _ rfl ((HOD.out.alloc _).alloc _) (some ⟨wd.heap.size + 1, 0, none⟩) 1 1 (wd.heap.size + 2) [.slice (some ⟨wd.heap.size, 0, none⟩) 2 2, .int .i64 1] rfl rfl (by exact Row.new' (wd.alloc _) _ _ (by simp) rfl (by simp)) (two_oneC _ _ _ _) ?_ ?_ ?_ ?_; rotate_right; intro v7 w7 hown7 hg7 hif7; rotate_left; (simp only [maxLen]; omega); (omega); (simp; omega))
                -- STOP-k
                have HOW7 := hid hown7
                have HG7 := hid hg7
                have HIF := hid hif7
                clear hown7 hg7 hif7
                go_roundw
                case rel =>
                  have hba := alloc_below (alloc_below (Below.refl wd.heap.size wd) (.cells #[.int .i64 q, .int .i64 m] 3)) (.cells #[.slice (some ⟨wd.heap.size, 0, none⟩) 2 2, .int .i64 1] 67)
                  have hnw : some wd.heap.size ≠ (Value.slice A7 S.length c7).ownBlock := fun e => by
                    have := (HOD.out.lt _ e.symm).2
                    omega
                  have hsz7 := HG7.out.size
                  simp at hsz7
                  have hro : RowOwn (wd.alloc (.cells #[.int .i64 q, .int .i64 m] 3)) (some ⟨wd.heap.size, 0, none⟩) [q, m] 2 := blk_rowOwn2 (Blk.new wd #[.int .i64 q, .int .i64 m] 3)
                  have hro2 := ((hro.step (alloc_below (Below.refl _ _) (.cells #[.slice (some ⟨wd.heap.size, 0, none⟩) 2 2, .int .i64 1] 67))).grown_ne (Nat.le_refl _) HG7.out (fun b off z e => by injection e with e; injection e with e; rw [← e]; exact hnw)).more HG7.out.size
                  refine ⟨k + 1, S ++ [⟨[q, m], some ⟨wd.heap.size, 0, none⟩, 2, 1⟩], by omega, by go_num, by simp; omega, hid ?_, hid ?_, hid ?_, hid (((Below.step' HBS.out HBD.out).trans (hba.mono (Nat.le_trans hsk hsd))).grown HG7.out (by simp; omega) (fun g e => (HOD.out.lt g e).1))⟩
                  · rw [HSS4.out, ← HIS.out]
                    show (S ++ [(⟨[q, m], some ⟨wd.heap.size, 0, none⟩, 2, 1⟩ : IR)]).map IR.it = _
                    rw [List.map_append]; rfl
                  · rw [rcells_snoc, List.length_append]
                    exact HOW7.out
                  · refine RowsNew.snoc (((HNS.out.step HBD.out).step hba).grown HG7.out HIF.out) (x := (⟨[q, m], some ⟨wd.heap.size, 0, none⟩, 2, 1⟩ : IR)) hro2 (fun b off z e => by injection e with e; injection e with e; omega) (fun b off z e => ?_) (by simp)
                    injection e with e
                    injection e with e
                    subst e
                    refine ⟨?_, by omega⟩
                    rcases HIF.out with h | h
                    · rw [h]; exact hnw
                    · rw [h]; intro e2; injection e2 with e2; simp at e2; omega
                case measure => simp [intOf]; omega
        · have t1 : ((k : Int) < (K.length : Int)) = False := eq_false (by omega)
          have hke : k = K.length := by omega
          rw [hke, List.take_length] at HIS
          go_wp2_with fail
          -- STOP-l
          go_ret
          exact ⟨A7, c7, S, rfl, by rw [HIS.out]; exact HPM.out, ⟨Row.of_ownS HOS.out, HNS.out.rows⟩, Below.step' HBWK.out HBS.out⟩
end Go.Proofs.YtldlmkfigjicgaaGreatDoor
/- viewref.made, all of it. -/
namespace Go.Proofs.YtldlmkfigjicgaaGreatDoor
set_option linter.unusedVariables false
set_option linter.unusedSimpArgs false
open Go.ChangeShapes Go.WideShapes Go.ChangeAt Go.RowKit

theorem LiPost.perm {S : List It} {w w' : World} {e : Ending} (h : LiPost S w e w') : PermPost S w e w' := by
  obtain ⟨A, k, M, h1, h2, h3, h4⟩ := h
  exact ⟨A, k, M, h1, by rw [h2], h3, h4⟩
/-- What the document's step asks. -/
structure MadeOk (s : St) (A B : List It) : Prop where
  ok : StepOk s A B
  kind : s.kind = 2 ∨ s.kind = 3 ∨ s.kind = 4 ∨ (s.kind = 5 ∨ s.kind = 6) ∨ s.kind = 7 ∨ s.kind = 8 ∨ s.kind = 9
  op : s.kind = 2 → 1 ≤ s.op ∧ s.op ≤ 3
  val : s.kind = 8 → s.val = 0
  sa : setI A = 0
  sb : setI B = 0
theorem stW_parts {s : St} {W : List Int} (h : stW s W ≠ 0) : (s.kind = 2 → 1 ≤ s.op ∧ s.op ≤ 3) ∧ (s.kind = 8 → s.val = 0) := by
  unfold stW at h
  refine ⟨fun k => ?_, fun k => ?_⟩
  · rw [if_neg (by omega)] at h
    split at h
    · exact absurd rfl h
    · unfold ofW at h
      rw [if_pos k] at h
      split at h
      · rename_i e
        simp only [Bool.and_eq_true, wiB_iff] at e
        omega
      · exact absurd rfl h
  · rw [if_neg (by omega)] at h
    split at h
    · exact absurd rfl h
    · unfold ofW at h
      rw [if_neg (by omega), if_neg (by omega), if_neg (by omega), if_neg (by omega), if_neg (by omega), if_pos k] at h
      split at h
      · rename_i e
        simp only [Bool.and_eq_true, wiB_iff, beq_iff_eq] at e
        omega
      · exact absurd rfl h
theorem madeOk_of {s : St} {V : List Int} {out : List (List It)} (h : stW s V ≠ 0) (ho : OkOut out V) (k : s.kind ≠ 1) : 0 ≤ s.a ∧ s.a < out.length ∧ 0 ≤ s.b ∧ s.b < out.length ∧ MadeOk s (out.getD s.a.toNat []) (out.getD s.b.toNat []) := by
  obtain ⟨a0, a1, b0, b1, ok⟩ := stepOk_of h ho k
  refine ⟨a0, a1, b0, b1, ok, ?_, (stW_parts h).1, (stW_parts h).2, ?_, ?_⟩
  · rcases stW_ok h with ⟨k1, -⟩ | ⟨-, -, -, -, hk⟩
    · exact absurd k1 k
    · rcases hk with ⟨q, -⟩ | ⟨q, -⟩ | ⟨q, -⟩ | ⟨q, -⟩ | q | ⟨q, -⟩ | ⟨q, -⟩
      · exact .inl q
      · exact .inr (.inl q)
      · exact .inr (.inr (.inl q))
      · exact .inr (.inr (.inr (.inl q)))
      · exact .inr (.inr (.inr (.inr (.inl q))))
      · exact .inr (.inr (.inr (.inr (.inr (.inl q)))))
      · exact .inr (.inr (.inr (.inr (.inr (.inr q)))))
  · exact (ho.get a0 (by rw [← ho.1]; exact a1)).1
  · exact (ho.get b0 (by rw [← ho.1]; exact b1)).1
theorem mem_it {M : List IR} {y : IR} (h : y ∈ M) : y.it ∈ its M := List.mem_map.2 ⟨y, h, rfl⟩
theorem Rstep_any (x : SR) (M1 M2 : List IR) (A1 A2 : Option Addr) (c1 c2 : Nat) (w : World) (hs : Row w w.heap.size x.A (icells' x.st.list)) (h1 : RowI w w.heap.size A1 M1) (h2 : RowI w w.heap.size A2 M2) (hok : MadeOk x.st (its M1) (its M2)) :
    Calls Tryz.prog 57 #[.agg x.cells.toArray, .slice A1 M1.length c1, .slice A2 M2.length c2] w (PermPost (stL x.st (its M1) (its M2)) w) := by
  have l1 : M1.length ≤ 400 := len_set hok.sa
  have l2 : M2.length ≤ 400 := len_set hok.sb
  obtain ⟨⟨sk, sa, sb, sc, so, sv, sl⟩, sA, sK⟩ := x
  obtain ⟨⟨⟨k2, k3, k6⟩, k4, k89⟩, hk, hop, hval, hsa, hsb⟩ := hok
  simp only at k2 k3 k6 k4 k89 hk hop hval hs
  simp only [SR.cells]
  rcases hk with e | e | e | (e | e) | e | e | e
  · subst e
    have := made_k2 sa sb sc so sv sl sA sK M1 M2 A1 A2 c1 c2 w h1 (by omega) ⟨(k2 rfl).1, fun y hy => (k2 rfl).2 _ (mem_it hy)⟩ (hop rfl)
    rw [show stL ⟨2, sa, sb, sc, so, sv, sl⟩ (its M1) (its M2) = whereL ⟨2, sa, sb, sc, so, sv, sl⟩ (its M1) by simp [stL, linB, linL]]
    exact this.mono fun _ _ h => h.perm
  · subst e
    have := made_k3 sa sb sc so sv sl sA sK M1 M2 A1 A2 c1 c2 w h1 (by omega) hs (k3 rfl).1 (fun n hn => ⟨((k3 rfl).2 n hn).1, fun y hy => ((k3 rfl).2 n hn).2 _ (mem_it hy)⟩)
    rw [show stL ⟨3, sa, sb, sc, so, sv, sl⟩ (its M1) (its M2) = pickL ⟨3, sa, sb, sc, so, sv, sl⟩ (its M1) by simp [stL, linB, linL]]
    exact this.mono fun _ _ h => h.perm
  · subst e
    have := made_k4 sa sb sc so sv sl sA sK M1 M2 A1 A2 c1 c2 w h1 (by omega) h2 (by omega) (k4 rfl)
    rw [show stL ⟨4, sa, sb, sc, so, sv, sl⟩ (its M1) (its M2) = joinL ⟨4, sa, sb, sc, so, sv, sl⟩ (its M1) (its M2) by simp [stL, linB]]
    exact this.mono fun _ _ h => h.perm
  · subst e
    have := made_k5 sa sb sc so sv sl sA sK M1 M2 A1 A2 c1 c2 w h1 (by omega) h2 (by omega)
    rw [show stL ⟨5, sa, sb, sc, so, sv, sl⟩ (its M1) (its M2) = its M1 ++ its M2 by simp [stL, linB, linL]]
    exact this.mono fun _ _ h => h.perm
  · subst e
    have := made_k6 sa sb sc so sv sl sA sK M1 M2 A1 A2 c1 c2 w h1 (by omega) h2 hsb
    rw [show stL ⟨6, sa, sb, sc, so, sv, sl⟩ (its M1) (its M2) = its M1 ++ negL (its M2) by simp [stL, linB, linL]]
    exact this.mono fun _ _ h => h.perm
  · subst e
    have := made_k7 sa sb sc so sv sl sA sK M1 M2 A1 A2 c1 c2 w h1 (by omega)
    rw [show stL ⟨7, sa, sb, sc, so, sv, sl⟩ (its M1) (its M2) = distL (its M1) by simp [stL, linB]]
    exact this.mono fun _ _ h => h.perm
  · subst e
    obtain ⟨g1, -, g3⟩ := k89 (.inl rfl)
    simp only at g1 g3
    have hv0 := hval rfl
    subst hv0
    have := made_k8 sa sb sc so 0 sl sA sK M1 M2 A1 A2 c1 c2 w h1 (by omega) ⟨g1, fun y hy => (g3 _ (mem_it hy)).1⟩ ⟨by omega, fun y hy => by have := (g3 _ (mem_it hy)).1; simp only [IR.it] at this; omega⟩
    rw [show stL ⟨8, sa, sb, sc, so, 0, sl⟩ (its M1) (its M2) = groupL ⟨8, sa, sb, sc, so, 0, sl⟩ (its M1) by simp [stL, linB]]
    exact this
  · subst e
    obtain ⟨g1, g2, g3⟩ := k89 (.inr rfl)
    simp only at g1 g2 g3
    have := made_k9 sa sb sc so sv sl sA sK M1 M2 A1 A2 c1 c2 w h1 (by omega) ⟨g1, fun y hy => (g3 _ (mem_it hy)).1⟩ ⟨by simpa using g2, fun y hy => by have := (g3 _ (mem_it hy)).2.1; simpa using this⟩
    rw [show stL ⟨9, sa, sb, sc, so, sv, sl⟩ (its M1) (its M2) = groupL ⟨9, sa, sb, sc, so, sv, sl⟩ (its M1) by simp [stL, linB]]
    exact this

/-! numbers that a word holds -/
theorem in64_wrp (a : Int) : -9223372036854775808 ≤ wrp a ∧ wrp a ≤ 9223372036854775807 := by
  simp only [wrp, IntKind.wrap_i64]
  omega
theorem in64_row {r : List Int} (h : ∀ z ∈ r, -1073741824 ≤ z ∧ z ≤ 1073741824) : In64 r := fun z hz => by have := h z hz; omega
theorem in64_col {r : List Int} (h : ∀ z ∈ r, -1073741824 ≤ z ∧ z ≤ 1073741824) (i : Int) : -9223372036854775808 ≤ colD r i ∧ colD r i ≤ 9223372036854775807 := by
  unfold colD
  rw [List.getD_eq_getElem?_getD]
  cases e : r[i.toNat]? with
  | none => simp
  | some v => have := h v (List.mem_of_getElem? e); simp; omega
theorem stL_in64 (s : St) {A B : List It} (ha : setI A = 0) (hb : setI B = 0) : ∀ y ∈ stL s A B, In64 y.1 := by
  have bA := bound_of ha
  have bB := bound_of hb
  intro y hy
  unfold stL at hy
  split at hy
  · unfold linL at hy
    split at hy
    · exact in64_row (bA y (List.mem_filter.1 hy).1).2.1
    · split at hy
      · obtain ⟨x, hx, rfl⟩ := List.mem_map.1 hy
        intro z hz
        obtain ⟨i, -, rfl⟩ := List.mem_map.1 hz
        exact in64_col (bA x hx).2.1 i
      · split at hy
        · rcases List.mem_append.1 hy with e | e
          · exact in64_row (bA y e).2.1
          · exact in64_row (bB y e).2.1
        · split at hy
          · rcases List.mem_append.1 hy with e | e
            · exact in64_row (bA y e).2.1
            · obtain ⟨x, hx, rfl⟩ := List.mem_map.1 e
              exact in64_row (bB x hx).2.1
          · simp at hy
  · split at hy
    · obtain ⟨x, hx, hy⟩ := List.mem_flatMap.1 hy
      obtain ⟨z, hz, rfl⟩ := List.mem_map.1 hy
      have q1 := in64_row (bA x hx).2.1
      have q2 := in64_row (bB z (List.mem_filter.1 hz).1).2.1
      intro n hn
      rcases List.mem_append.1 hn with e | e
      · exact q1 n e
      · exact q2 n e
    · split at hy
      · obtain ⟨x, hx, rfl⟩ := List.mem_map.1 hy
        exact in64_row (bA x (List.mem_filter.1 hx).1).2.1
      · split at hy
        · obtain ⟨k, hk, hy⟩ := List.mem_flatMap.1 hy
          unfold toldL at hy
          split at hy
          · simp at hy
          · rw [List.mem_singleton.1 hy]
            obtain ⟨x, hx, rfl⟩ := List.mem_map.1 ((dedupI_mem _ _).1 hk)
            intro n hn
            rcases List.mem_cons.1 hn with e | e
            · rw [e]; exact in64_col (bA x hx).2.1 _
            · rw [List.mem_singleton.1 e]
              split
              · rename_i k9
                unfold grpS
                rw [if_pos k9]
                exact in64_wrp _
              · exact in64_wrp _
        · simp at hy
theorem atL_in64 {s : St} {V : List Int} {out : List (List It)} {ta tb : List It} (h : stW s V ≠ 0) (ho : OkOut out V) (ha : setI ta = 0) (hb : setI tb = 0) : ∀ y ∈ atL ta tb s out, In64 y.1 := by
  intro y hy
  unfold atL at hy
  by_cases k : s.kind = 1
  · rw [if_pos k] at hy
    split at hy
    · exact in64_row ((bound_of ha) y hy).2.1
    · exact in64_row ((bound_of hb) y hy).2.1
  · rw [if_neg k] at hy
    rcases stW_ok h with ⟨k1, -⟩ | ⟨a0, a1, b0, b1, hk⟩
    · exact absurd k1 k
    · exact stL_in64 s (ho.get a0 a1).1 (ho.get b0 b1).1 y hy
end Go.Proofs.YtldlmkfigjicgaaGreatDoor
/- viewref.Sets. -/
namespace Go.Proofs.YtldlmkfigjicgaaGreatDoor
set_option linter.unusedVariables false
set_option linter.unusedSimpArgs false
open Go.ChangeShapes Go.WideShapes Go.ChangeAt Go.RowKit

set_option maxHeartbeats 1000000 in
set_option maxRecDepth 100000 in
theorem Rsets_any (L : List SR) (M1 M2 : List IR) (A0 A1 A2 : Option Addr) (c0 c1 c2 : Nat) (w : World) (h0 : RowS w w.heap.size A0 L) (l0 : L.length ≤ 9223372036854775807) (h1 : RowI w w.heap.size A1 M1) (l1 : M1.length ≤ 9223372036854775807) (h2 : RowI w w.heap.size A2 M2) (l2 : M2.length ≤ 9223372036854775807) (ht : Pow w) :
    Calls Tryz.prog 21 #[.slice A0 L.length c0, .slice A1 M1.length c1, .slice A2 M2.length c2] w (AllPost (allX (sts L) (its M1) (its M2)) (allE (sts L) (its M1) (its M2)) w) := by
  have HBS := hid (Rbased_any L M1 M2 A0 A1 A2 c0 c1 c2 w h0 l0 h1 l1 h2 l2)
  have HE := hid (show allE (sts L) (its M1) (its M2) = if basesE (sts L) (its M1) (its M2) ≠ 0 then basesE (sts L) (its M1) (its M2) else (setsG (its M1) (its M2) (sts L) []).1 from rfl)
  have HX := hid (show allX (sts L) (its M1) (its M2) = if allE (sts L) (its M1) (its M2) = 0 then (setsG (its M1) (its M2) (sts L) []).2 else [] from rfl)
  obtain ⟨E, hE⟩ : ∃ q, q = allE (sts L) (its M1) (its M2) := ⟨_, rfl⟩
  obtain ⟨X, hX⟩ : ∃ q, q = allX (sts L) (its M1) (its M2) := ⟨_, rfl⟩
  obtain ⟨EB, hEB⟩ : ∃ q, q = basesE (sts L) (its M1) (its M2) := ⟨_, rfl⟩
  have HEB := hid hEB
  rw [← hE] at HE HX
  rw [← hX] at HX
  rw [← hEB] at HE HBS
  rw [← hE, ← hX]
  have HR := hid h0
  have HT := hid ht
  have HR1 := hid h1
  have HR2 := hid h2
  clear hE hX hEB h0 h1 h2 ht
  go_enter Tryz.func21, Tryz.ntmps21
  go_wp2_with fail
  refine HBS.out.mono ?_
  rintro e w1 ⟨rfl, hb1⟩
  have HB1 := hid hb1
  clear hb1 HBS
  by_cases q0 : EB = 0
  rotate_left
  · have t1 : (EB != 0) = true := by simpa using q0
    have HE1 := hid (show E = EB by rw [HE.out, if_pos q0])
    have HQ := hid q0
    clear q0
    go_wp2_with fail
    go_ret2
    exact allPost_nil (by rw [HX.out, if_neg (by rw [HE1.out]; exact HQ.out)]) HE1.out HB1.out
  subst q0
  replace HE : Hid (E = (setsG (its M1) (its M2) (sts L) []).1) := hid (by rw [HE.out, if_neg (by simp)])
  obtain ⟨z1, z2, z3, z4, z5⟩ := basesE_zero.1 HEB.out.symm
  obtain ⟨z6, z7, Wf, z8⟩ := queryE_zero.1 z1
  have hL8 : L.length ≤ 8 := by simpa [sts] using z7
  have hM1 := len_set z2
  have hM2 := len_set z3
  have H4 := hid (And.intro z4 z5)
  have HZ23 := hid (And.intro z2 z3)
  have HLA := hid (show (its M1).length ≤ 400 from set_len z2)
  have HLB := hid (show (its M2).length ≤ 400 from set_len z3)
  have HW0 := hid z8
  clear z1 z2 z3 z4 z5 z6 z7 z8 HEB
  go_wp2_with fail
  -- STOP-a
  go_loopw [9, 10] (fun s9 s10 wr => ∃ (i : Nat) (LL : List LR) (V : List Int), i ≤ L.length ∧ s10 = .int .i64 i ∧ LL.length = i ∧ Hid (widsL (sts (L.drop i)) V = some Wf ∧ ∀ v ∈ V, v ≤ 8) ∧ Hid (OkOut (setsOf LL) V) ∧ Hid (setsG (its M1) (its M2) (sts (L.drop i)) (setsOf LL) = setsG (its M1) (its M2) (sts L) []) ∧ Hid (wr.ownsRow w1.heap.size 22 1 s9 LL.length (pcells LL)) ∧ Hid (SetsNew wr w1.heap.size s9 LL) ∧ Hid (Below w1.heap.size w1 wr) ∧ Hid (LL.Pairwise Apart)) (fun _ s10 _ => L.length - (intOf s10).toNat)
  case atStart => exact ⟨0, [], [], by omega, rfl, rfl, hid ⟨by rw [List.drop_zero]; exact HW0.out, by simp⟩, hid okOut_nil, hid (by rw [List.drop_zero]; rfl), hid (World.ownsRow_nil _ _ _ _), hid (SetsNew.nil _ _ _), hid (Below.refl _ _), hid .nil⟩
  case round =>
    obtain ⟨i, LL, V, hi, rfl, hLL, HWV, HOK, HSG, HOWN, HNEW, HB, HAPT⟩ := hrel
    obtain ⟨A9, c9, rfl⟩ := own_formS HOWN.out
    have hsw := HB.out.size
    have HBW := hid (Below.step' HB1.out HB.out)
    have HLL := hid hLL
    have hLL1 : LL.length ≤ i := by omega
    clear hLL
    by_cases hlt : i < L.length
    · have HRS := hid (HR.out.step HBW.out)
      obtain ⟨b, off, rfl, hb, e0, e1, e2, e3, e4, e5, e6⟩ := HRS.out.1.sr hlt
      have HRX := hid (HRS.out.2 L[i] (List.getElem_mem hlt))
      have hdr : sts (L.drop i) = L[i].st :: sts (L.drop (i + 1)) := by rw [List.drop_eq_getElem_cons hlt]; rfl
      obtain ⟨hWV, hV8⟩ := HWV.out
      rw [hdr] at hWV
      obtain ⟨y1, y2⟩ := widsL_cons hWV
      have HWN := hid y2
      have HSG' := HSG.out
      rw [hdr, setsG] at HSG'
      have HSN := hid HSG'
      have HSO := hid (fun k => madeOk_of y1 HOK.out k)
      have HAL := hid (atL_len y1 HOK.out HLA.out HLB.out)
      have HAI := hid (atL_in64 y1 HOK.out HZ23.out.1 HZ23.out.2)
      have HAW := hid (atL_wide y1 HOK.out H4.out.1 H4.out.2)
      have HV8 := hid (show ∀ v ∈ V ++ [stW L[i].st V], v ≤ 8 from fun v hv => by
        rcases List.mem_append.1 hv with q | q
        · exact hV8 v q
        · rw [List.mem_singleton.1 q]; exact stW_le y1 hV8)
      have HKA := hid (show L[i].st.kind = 1 → L[i].st.a = 0 ∨ L[i].st.a = 1 from fun k => by
        rcases stW_ok y1 with ⟨-, q⟩ | ⟨-, -, -, -, hk⟩
        · exact q
        · omega)
      clear hdr hWV hV8 y1 y2 HSG' HSG HWV
      generalize L[i] = x at *
      generalize stW x.st V = v at *
      obtain ⟨ST, hST⟩ : ∃ q, q = x.st := ⟨_, rfl⟩
      obtain ⟨⟨sk, sa, sb, sc, so, sv, sl⟩, sA, sK⟩ := x
      simp only at e0 e1 e2 e3 e4 e5 e6 HRX HKA HSO hST
      rw [← hST] at HSN HSO HAL HAW HAI
      have HST := hid hST
      clear hST
      have hneb : (b = wr.heap.size) = False := by simp; omega
      obtain ⟨wo, rfl⟩ : ∃ wx : World, wx = wr := ⟨_, rfl⟩
      obtain ⟨W2, hW2⟩ : ∃ W2 : World, W2 = wo.alloc (.cells #[.int .i64 sk, .int .i64 sa, .int .i64 sb, .int .i64 sc, .int .i64 so, .int .i64 sv, .slice sA sl.length sK] 89) := ⟨_, rfl⟩
      have HX2 := hid (show Blk W2 wo.heap.size #[.int .i64 sk, .int .i64 sa, .int .i64 sb, .int .i64 sc, .int .i64 so, .int .i64 sv, .slice sA sl.length sK] 89 by rw [hW2]; exact Blk.new _ _ _)
      have HBO := hid (show Below wo.heap.size wo W2 by rw [hW2]; exact alloc_below (Below.refl _ _) _)
      go_upto_region 10 with fail
      -- STOP-b
      rw [← hW2]
      clear hW2 e0 e1 e2 e3 e4 e5 e6
      obtain ⟨cHX2, fHX2, sHX2, nHX2⟩ := HX2.out.all
      try simp only [cbox] at cHX2
      go_upto_if 35 with fail
      go_cut [12] from 33 to 51 (fun s12 wx => ∃ A M k, s12 = .slice A M.length k ∧ Hid ((its M).Perm (atL (its M1) (its M2) ST (setsOf LL))) ∧ Hid (RowI wx wx.heap.size A M) ∧ Hid (Below W2.heap.size W2 wx))
      case first =>
        obtain ⟨cx, fx, sx, nx⟩ := HX2.out.all
        by_cases k1 : sk = 1
        · have t1 : (sk == 1) = true := by simp [k1]
          have HAT := hid (show atL (its M1) (its M2) ST (setsOf LL) = if sa = 0 then its M1 else its M2 by rw [HST.out, atL, if_pos k1])
          have HK1 := hid k1
          clear k1
          by_cases k2 : sa = 0
          · have t2 : (sa == 1) = false := by simp [k2]
            have HK2 := hid k2
            clear k2
            go_wp2_with fail
            go_meet
            case rel => exact ⟨A1, M1, c1, rfl, hid (by rw [HAT.out, if_pos HK2.out]), hid (HR1.out.step (Below.step' HBW.out HBO.out)), hid (Below.refl _ _)⟩
          · have t2 : (sa == 1) = true := by rcases HKA.out HK1.out with q | q
                                             · exact absurd q k2
                                             · simp [q]
            have HK2 := hid k2
            clear k2
            go_wp2_with fail
            go_meet
            case rel => exact ⟨A2, M2, c2, rfl, hid (by rw [HAT.out, if_neg HK2.out]), hid (HR2.out.step (Below.step' HBW.out HBO.out)), hid (Below.refl _ _)⟩
        · have t1 : (sk == 1) = false := by simpa using k1
          have hKN : ST.kind ≠ 1 := by rw [HST.out]; exact k1
          have HAT := hid (show atL (its M1) (its M2) ST (setsOf LL) = stL ST ((setsOf LL).getD sa.toNat []) ((setsOf LL).getD sb.toNat []) by rw [atL, if_neg hKN, HST.out])
          obtain ⟨a0, a1, b0, b1, hok⟩ := HSO.out k1
          rw [setsOf_len] at a1 b1
          obtain ⟨ja, hja⟩ : ∃ j : Nat, (j : Int) = sa := ⟨sa.toNat, by omega⟩
          obtain ⟨jb, hjb⟩ : ∃ j : Nat, (j : Int) = sb := ⟨sb.toNat, by omega⟩
          have hla : ja < LL.length := by omega
          have hlb : jb < LL.length := by omega
          have eA : sa.toNat = ja := by omega
          have eB : sb.toNat = jb := by omega
          rw [eA, eB, setsOf_getD hla, setsOf_getD hlb] at hok HAT
          obtain ⟨bo, oo, rfl, hbo, ga⟩ := (Row.of_ownS HOWN.out).lr hla
          obtain ⟨bo', oo', hA9, hbo', gb⟩ := (Row.of_ownS HOWN.out).lr hlb
          injection hA9 with hA9
          injection hA9 with hA9 hA9'
          subst hA9 hA9'
          have SA := HNEW.out.rows _ (List.getElem_mem hla)
          have SB := HNEW.out.rows _ (List.getElem_mem hlb)
          generalize LL[ja] = RA at *
          generalize LL[jb] = RB at *
          obtain ⟨MA, AA, kA⟩ := RA
          obtain ⟨MB, AB, kB⟩ := RB
          simp only at SA SB ga gb hok HAT
          have HSA := hid SA
          have HSB := hid SB
          have HOKS := hid hok
          have hga := ((bcell HBO.out).1 bo _ hbo).trans ga
          have hgb := ((bcell HBO.out).1 bo _ hbo).trans gb
          have HCS := hid (fun w3 (hb : Below W2.heap.size W2 w3) => Rstep_any ⟨⟨sk, sa, sb, sc, so, sv, sl⟩, sA, sK⟩ MA MB AA AB kA kB w3 (HRX.out.1.step (Below.step' HBO.out hb)) (HSA.out.step (Below.step' HBO.out hb)) (HSB.out.step (Below.step' HBO.out hb)) (by have := HOKS.out; rw [HST.out] at this; exact this))
          have hbo2 : bo < W2.heap.size := Nat.lt_of_lt_of_le hbo HBO.out.size
          clear SA SB hok ga gb eA eB hKN k1 hbo'
          subst hja hjb
          go_upto_region 13 with fail
          -- STOP-b2
          refine region_tail 11 (by kernel_rfl) (by kernel_rfl) ?_
          simp only [List.take_succ_cons, List.take_zero, List.drop_succ_cons, List.drop_zero]
          repeat still_step
          refine wpStill_nil ?_
          go_wp2_with fail
          -- STOP-c
          refine (HCS.out _ (Below.drew (Below.refl _ _))).mono ?_
          rintro e w3 ⟨A12, k12, M12, rfl, hperm, hrow, hb3⟩
          have HPM := hid hperm
          have HRW := hid hrow
          have HB3 := hid hb3
          clear hperm hrow hb3 HCS
          go_wp2_with fail
          go_meet
          case rel => exact ⟨A12, M12, k12, rfl, hid (by rw [HAT.out, HST.out]; exact HPM.out), HRW, hid (Below.step' (Below.drew (Below.refl _ _)) HB3.out)⟩
      case rest =>
        obtain ⟨A12, M12, k12, rfl, HPM, HRW, HB3⟩ := hcut
        have HB4 := hid (Below.step' HBO.out HB3.out)
        have HO4 := hid (own_laterS HOWN.out HB4.out)
        have HN4 := hid (HNEW.out.step HB4.out)
        clear HX2
        obtain ⟨w4, rfl⟩ : ∃ wx : World, wx = wc := ⟨_, rfl⟩
        -- STOP-d
        have hlM : M12.length ≤ 160000 := by
          rw [← its_len M12, HPM.out.length_eq]
          exact HAL.out
        have hS : sumL (its M12) = sumL (atL (its M1) (its M2) ST (setsOf LL)) := sumL_perm HPM.out
        have HLEN := hid (show ∀ y ∈ M12, (y.row.length : Int) = v from fun y hy => HAW.out _ (HPM.out.mem_iff.1 (List.mem_map.2 ⟨y, hy, rfl⟩)))
        have hv8 : v ≤ 8 := HV8.out v (by simp)
        have HTOK : Hid (TotOk M12) := hid ⟨by omega, fun y hy => by have := HLEN.out y hy; omega, fun y hy => HAI.out _ (HPM.out.mem_iff.1 (List.mem_map.2 ⟨y, hy, rfl⟩))⟩
        have HPW := hid (Pow.step HT.out (Below.step' HBW.out HB4.out))
        have hmd := Rmade_any M12 A12 k12 w4 HRW.out HTOK.out HPW.out
        rw [hS] at hmd
        have HMD := hid hmd
        have hSL : (sumL (atL (its M1) (its M2) ST (setsOf LL))).length ≤ 160000 := Nat.le_trans (sumL_len _) HAL.out
        generalize hSS : sumL (atL (its M1) (its M2) ST (setsOf LL)) = SS at *
        clear hS hmd
        have HSS := hid hSS
        clear hSS
        obtain ⟨ED, hED⟩ : ∃ q, q = doneE SS := ⟨_, rfl⟩
        have HED := hid hED
        rw [← hED] at HMD HSN
        clear hED
        go_wp2_with fail
        -- STOP-e
        refine HMD.out.mono ?_
        rintro e w6 ⟨A3, k3, M3, rfl, hits, hown, hnew, hb6⟩
        have HIT := hid hits
        have HOS6 := hid hown
        have HNS6 := hid hnew
        have HO6 := hid (own_laterS HO4.out hb6)
        have HN6 := hid (HN4.out.step hb6)
        have HBA := hid (Below.step' (Below.step' HBW.out HB4.out) hb6)
        have HBL := hid (Below.step' (Below.step' HB.out HB4.out) hb6)
        have HB6 := hid hb6
        have hs6 := HBL.out.size
        have hs4 : wo.heap.size ≤ w4.heap.size := HB4.out.size
        have hl3 : M3.length ≤ 160000 := by
          rw [← its_len M3, hits]
          unfold doneX
          split
          · exact hSL
          · simp
        clear hits hown hnew hb6 HMD
        by_cases hz : ED = 0
        · have HZ := hid hz
          have hzb : (ED != 0) = false := by simp [hz]
          have HIT2 : Hid (its M3 = SS) := hid (by rw [HIT.out]; unfold doneX; rw [if_pos (by rw [← HED.out]; exact hz)])
          have HSN2 := hid (show setsG (its M1) (its M2) (sts (L.drop (i + 1))) (setsOf LL ++ [SS]) = setsG (its M1) (its M2) (sts L) [] by have := HSN.out; rwa [if_neg (by simp [hz])] at this)
          clear hz HSN
          have hone : ∀ u ∈ ([.slice A3 M3.length k3] : List Value), u.oneCell' = true := by
            intro u hu
            simp only [List.mem_cons, List.not_mem_nil, or_false] at hu
            subst hu; rfl
          go_wp2_with (at_builtin; refine wpList_append_row elem_sets rfl _ _ rfl w1.heap.size _ _ _ rfl (HO6.out.alloc _) (some ⟨w6.heap.size, 0, none⟩) 1 1 (w6.heap.size + 1) [.slice A3 M3.length k3] rfl rfl (Row.new' _ _ _ rfl rfl (Nat.lt_succ_self _)) hone ?_ ?_ ?_ ?_; rotate_right; intro v7 w7 hown7 hg7 hif7; rotate_left; (simp only [maxLen]; omega); (omega); (simp; omega))
          -- STOP-g
          have HOW7 := hid hown7
          have HG7 := hid hg7
          have HIF := hid hif7
          clear hown7 hg7 hif7 hone hs6 hs4
          go_roundw
          case rel =>
            have hNA := (HN6.out.step (alloc_below (Below.refl _ _) (.cells #[.slice A3 M3.length k3] 22))).grown HG7.out HIF.out
            have hsz6 := HB6.out.size
            have hsz7 := HG7.out.size
            simp at hsz7
            refine ⟨i + 1, LL ++ [⟨M3, A3, k3⟩], V ++ [v], by omega, by go_num, by simp; exact HLL.out, hid ⟨HWN.out, HV8.out⟩, hid ?_, hid ?_, hid ?_, hid ?_, hid (Below.grown (alloc_below HBL.out _) HG7.out (by have := HBL.out.size; simp; omega) (fun g e => (HO6.out.lt g e).1)), hid (HN4.out.apart (Nat.le_refl _) HAPT.out (own_newS HOS6.out (Nat.le_refl _)) (fun z hz => (HNS6.out z hz).2.1))⟩
            · rw [setsOf_snoc]
              refine HOK.out.snoc ?_ fun y hy => ?_
              · rw [HIT2.out, ← HSS.out]
                exact done_set (by rw [HSS.out, ← HED.out]; exact HZ.out)
              · simp only at hy
                rw [HIT2.out, ← HSS.out] at hy
                obtain ⟨z, hz, e2⟩ := sumL_mem hy
                rw [← e2]
                exact HAW.out z hz
            · rw [setsOf_snoc, HIT2.out]; exact HSN2.out
            · rw [pcells_snoc, List.length_append]
              simpa using HOW7.out
            · have hap := alloc_below (Below.refl w6.heap.size w6) (.cells #[.slice A3 M3.length k3] 22)
              have hOA := own_laterS HOS6.out hap
              have hNB := HNS6.out.step hap
              have hb4w := HBL.out.size
              have hold : ∀ g, w4.heap.size ≤ g → g < w6.heap.size → some g ≠ _ := fun g q1 q2 e2 => by
                have := (HO4.out.lt g e2.symm).2
                omega
              have hne : ∀ g, w4.heap.size ≤ g → g < w6.heap.size → some g ≠ v7.ownBlock := fun g q1 q2 => by
                rcases HIF.out with q | q
                · rw [q]; exact hold g q1 q2
                · rw [q]; intro e2; injection e2 with e2; simp at e2; omega
              have hsA : w1.heap.size ≤ w4.heap.size := (Below.step' HB.out HB4.out).size
              refine SetsNew.snoc hNA (x := (⟨M3, A3, k3⟩ : LR)) (own_baseS (own_ne_grown hOA HG7.out fun g e => ?_) hsA) (fun y hy => ?_) (fun g e => ?_) (fun y hy b off q e => ?_)
              · have := HOS6.out.lt g e
                exact hold g this.1 this.2
              · have hy2 := (hNB.grownNe HG7.out (fun z hz b off q e => hold b ((HNS6.out z hz).2.1 b off q e) ((HNS6.out z hz).2.2.1 b off q e).2)) y hy
                exact ⟨hy2.1, newAt_le hy2.2.1 hsA, hy2.2.2⟩
              · have := HOS6.out.lt g e
                exact hne g this.1 this.2
              · exact hne b ((HNS6.out y hy).2.1 b off q e) ((HNS6.out y hy).2.2.1 b off q e).2
          case measure => simp [intOf]; omega
        · have HZ := hid hz
          have hzb : (ED != 0) = true := by simpa using hz
          have HSN2 := hid (show setsG (its M1) (its M2) (sts L) [] = (ED, []) by have := HSN.out; rw [if_pos hz] at this; exact this.symm)
          clear hz HSN
          go_wp2_with fail
          -- STOP-h
          go_ret2
          refine allPost_nil ?_ ?_ HBA.out
          · rw [HX.out, HE.out, HSN2.out, if_neg HZ.out]
          · rw [HE.out, HSN2.out]
    · have hik : i = L.length := by omega
      subst hik
      have HS0 := hid (show setsG (its M1) (its M2) (sts L) [] = (0, setsOf LL) by have := HSG.out; rw [List.drop_length] at this; exact this.symm)
      go_wp2_with fail
      -- STOP-i
      go_ret2
      have hE0 : E = 0 := by rw [HE.out, HS0.out]
      refine allPost_mk hE0 ?_ (own_baseS HOWN.out HB1.out.size) (fun x hx => ?_) HBW.out HAPT.out (by have := HLL.out; omega)
      · rw [HX.out, if_pos hE0, HS0.out]
      · obtain ⟨q1, q2, q3, q4⟩ := HNEW.out x hx
        exact ⟨own_baseS q1 HB1.out.size, fun y hy => ⟨(q2 y hy).1, newAt_le (q2 y hy).2.1 HB1.out.size, (q2 y hy).2.2⟩, q3, q4⟩
end Go.Proofs.YtldlmkfigjicgaaGreatDoor
/- viewlaw.PlainSays. -/
namespace Go.Proofs.YtldlmkfigjicgaaGreatDoor
set_option linter.unusedVariables false
set_option linter.unusedSimpArgs false
open Go.ChangeShapes Go.WideShapes Go.ChangeAt Go.RowKit

/-- A row of sets, wherever they lie. -/
def RowP (w : World) (A : Option Addr) (LL : List LR) : Prop := Row w w.heap.size A (pcells LL) ∧ ∀ x ∈ LL, RowI w w.heap.size x.A x.L ∧ x.L.length ≤ 9223372036854775807
theorem RowP.step {w w' : World} {A : Option Addr} {LL : List LR} (h : RowP w A LL) (hb : Below w.heap.size w w') : RowP w' A LL := ⟨h.1.step hb, fun x hx => ⟨(h.2 x hx).1.step hb, (h.2 x hx).2⟩⟩
theorem rowP_of {w : World} {lo : Nat} {A : Option Addr} {k : Nat} {LL : List LR} (h1 : w.ownsRow lo 22 1 (.slice A LL.length k) LL.length (pcells LL)) (h2 : SetsNew w lo (.slice A LL.length k) LL) : RowP w A LL :=
  ⟨Row.of_ownS h1, fun x hx => ⟨h2.rows x hx, own_len1 (h2 x hx).1⟩⟩

end Go.Proofs.YtldlmkfigjicgaaGreatDoor
