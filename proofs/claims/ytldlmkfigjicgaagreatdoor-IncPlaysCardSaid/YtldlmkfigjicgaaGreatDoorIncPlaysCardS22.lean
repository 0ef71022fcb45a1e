/- MdC, OncL, MdD -/
import Derived.Test.YtldlmkfigjicgaaGreatDoorIncPlaysCardS21
/- viewref.made: join. -/
namespace Go.Proofs.YtldlmkfigjicgaaGreatDoor
set_option linter.unusedVariables false
set_option linter.unusedSimpArgs false
open Go.ChangeShapes Go.WideShapes Go.ChangeAt Go.RowKit

def pjL (xr : List Int) (xn c v : Int) (B : List It) : List It := (B.filter (fun y => decide (colD y.1 v = c))).map (fun y => (xr ++ y.1, wrp (xn * y.2)))
theorem pjL_snoc (xr : List Int) (xn c v : Int) (B : List IR) (j : Nat) (h : j < B.length) : pjL xr xn c v (its (B.take (j + 1))) = pjL xr xn c v (its (B.take j)) ++ (if colD B[j].row v = c then [(xr ++ B[j].row, wrp (xn * B[j].n))] else []) := by
  unfold pjL
  rw [List.take_succ_eq_append_getElem h, its, List.map_append, List.filter_append, List.map_append]
  congr 1
  rw [List.map_cons, List.map_nil, List.filter_cons, List.filter_nil]
  by_cases q : colD B[j].row v = c
  · rw [if_pos (by simpa using q), if_pos q]; rfl
  · rw [if_neg (by simpa using q), if_neg q]; rfl
theorem joinL_snoc (s : St) (M : List IR) (B : List It) (i : Nat) (h : i < M.length) : joinL s (its (M.take (i + 1))) B = joinL s (its (M.take i)) B ++ pjL M[i].row M[i].n (colD M[i].row s.col) s.val B := by
  unfold joinL pjL
  rw [List.take_succ_eq_append_getElem h, its, List.map_append, List.flatMap_append]
  simp

set_option maxHeartbeats 4000000 in
set_option maxRecDepth 100000 in
theorem made_k4 (sa sb sc so sv : Int) (sl : List Int) (sA : Option Addr) (sK : Nat) (M1 M2 : List IR) (A1 A2 : Option Addr) (c1 c2 : Nat) (w : World) (hr : RowI w w.heap.size A1 M1) (hl : M1.length ≤ 800) (h2 : RowI w w.heap.size A2 M2) (l2 : M2.length ≤ 800) (hok : JoinOk ⟨4, sa, sb, sc, so, sv, sl⟩ (its M1) (its M2)) :
    Calls Tryz.prog 57 #[.agg #[.int .i64 4, .int .i64 sa, .int .i64 sb, .int .i64 sc, .int .i64 so, .int .i64 sv, .slice sA sl.length sK], .slice A1 M1.length c1, .slice A2 M2.length c2] w (LiPost (joinL ⟨4, sa, sb, sc, so, sv, sl⟩ (its M1) (its M2)) w) := by
  obtain ⟨hc0, hv0, hA, hB⟩ := hok
  obtain ⟨jc, rfl⟩ : ∃ j : Nat, sc = (j : Int) := ⟨sc.toNat, by simp only at hc0; omega⟩
  obtain ⟨jv, rfl⟩ : ∃ j : Nat, sv = (j : Int) := ⟨sv.toNat, by simp only at hv0; omega⟩
  have HR := hid hr
  have HR2 := hid h2
  have HCA := hid (fun y (hy : y ∈ M1) => hA y.it (List.mem_map.2 ⟨y, hy, rfl⟩))
  have HCB := hid (fun y (hy : y ∈ M2) => hB y.it (List.mem_map.2 ⟨y, hy, rfl⟩))
  have HJS := hid (fun i (h : i < M1.length) => joinL_snoc ⟨4, sa, sb, (jc : Int), so, (jv : Int), sl⟩ M1 (its M2) i h)
  have HPJ := hid (fun xr xn c j (h : j < M2.length) => pjL_snoc xr xn c (jv : Int) M2 j h)
  have HJ0 := hid (show joinL ⟨4, sa, sb, (jc : Int), so, (jv : Int), sl⟩ (its (M1.take 0)) (its M2) = [] from rfl)
  obtain ⟨JL, hJL⟩ : ∃ f, f = joinL ⟨4, sa, sb, (jc : Int), so, (jv : Int), sl⟩ := ⟨_, rfl⟩
  rw [← hJL] at HJS HJ0 ⊢
  simp only at HCA HCB HJS
  clear hJL hr h2 hA hB hc0 hv0
  have HON := hid (fun w1 => once_nil w1)
  obtain ⟨W1, hW1⟩ : ∃ W1 : World, W1 = w.alloc (.cells #[.int .i64 4, .int .i64 sa, .int .i64 sb, .int .i64 (jc : Int), .int .i64 so, .int .i64 (jv : Int), .slice sA sl.length sK] 89) := ⟨_, rfl⟩
  have HX := hid (show Blk W1 w.heap.size #[.int .i64 4, .int .i64 sa, .int .i64 sb, .int .i64 (jc : Int), .int .i64 so, .int .i64 (jv : Int), .slice sA sl.length sK] 89 by rw [hW1]; exact Blk.new _ _ _)
  have HB1 := hid (show Below w.heap.size w W1 by rw [hW1]; (repeat' (first | (with_reducible exact Below.refl _ _) | (with_reducible assumption) | (with_reducible refine below_drewN ?_ _) | (with_reducible refine Below.drew ?_) | (with_reducible refine Below.alloc ?_ ?_ _) | (with_reducible refine Below.setCell ?_ ?_ _) | (refine Below.trans ?_ (Below.mono (by assumption) ?_)) | go_size)))
  have hs1 := HB1.out.size
  go_enter Tryz.func57, Tryz.ntmps57
  go_wp2_with fail
  rw [← hW1]
  clear hW1
  -- STOP-a
  go_loopw [7, 8, 9] (fun s7 s8 s9 wr => ∃ (i : Nat) (S : List IR), i ≤ M1.length ∧ s9 = .int .i64 i ∧ s8 = .slice none 0 0 ∧ S.length ≤ i * 800 ∧ Hid (its S = JL (its (M1.take i)) (its M2)) ∧ Hid (wr.ownsRow W1.heap.size 67 2 s7 S.length (rcells S)) ∧ Hid (RowsNew wr W1.heap.size s7 S) ∧ Hid (Below W1.heap.size W1 wr)) (fun _ _ s9 _ => M1.length - (intOf s9).toNat)
  case atStart => exact ⟨0, [], by omega, rfl, rfl, by simp, hid HJ0.out.symm, hid (World.ownsRow_nil _ _ _ _), hid (RowsNew.nil _ _ _), hid (Below.refl _ _)⟩
  case round =>
    obtain ⟨i, S, hi, rfl, rfl, hSi, HIS, HOWN, HNEW, HB⟩ := hrel
    obtain ⟨A5, c5, rfl⟩ := own_formS HOWN.out
    have hsw := HB.out.size
    have HBW := hid (Below.step' HB1.out HB.out)
    by_cases hlt : i < M1.length
    · obtain ⟨b, off, rfl, hb, e0, e1⟩ := (HR.out.1.step HBW.out).it hlt
      obtain ⟨q1, q2, q3, q4⟩ := HCA.out M1[i] (List.getElem_mem hlt)
      have HXR := hid ((HR.out.2 M1[i] (List.getElem_mem hlt)).1)
      have HST := hid (HJS.out i hlt)
      generalize M1[i] = x at *
      obtain ⟨xr, xA, xk, xn⟩ := x
      simp only [IR.it] at e0 e1 HXR HST q1 q2 q3 q4
      have hj : jc < xr.length := by omega
      obtain ⟨b2, o2, rfl, hb2, hv2⟩ := HXR.out.int' hj
      have hcd : colD xr (jc : Int) = xr[jc] := by unfold colD; rw [Int.toNat_natCast, List.getD_eq_getElem?_getD, List.getElem?_eq_getElem hj]; rfl
      rw [hcd] at HST
      generalize xr[jc] = u at *
      have hneb : (b = wr.heap.size) = False := by simp; omega
      have hjl : (jc : Int) < (xr.length : Int) := by omega
      have HV2 := hid (fun w1 (hb : Below w.heap.size w w1) => show w1.cell? ⟨b2, o2 + jc, none⟩ = some (.int .i64 u) from (((bcell hb).1 b2 _ hb2).trans hv2))
      clear hcd q3 hv2
      obtain ⟨wo, rfl⟩ : ∃ wx : World, wx = wr := ⟨_, rfl⟩
      obtain ⟨W2, hW2⟩ : ∃ W2 : World, W2 = wo.alloc (.cells #[.slice (some ⟨b2, o2, none⟩) xr.length xk, .int .i64 xn] 67) := ⟨_, rfl⟩
      have HX2 := hid (show Blk W2 wo.heap.size #[.slice (some ⟨b2, o2, none⟩) xr.length xk, .int .i64 xn] 67 by rw [hW2]; exact Blk.new _ _ _)
      have HBO := hid (show Below wo.heap.size wo W2 by rw [hW2]; exact alloc_below (Below.refl _ _) _)
      have hs2 := HBO.out.size
      have HXO2 := hid ((HX.out.step HB.out).step HBO.out)
      have HNE0 : Hid (some wo.heap.size ≠ (Value.slice A5 S.length c5).ownBlock) := hid (fun e => by have := (HOWN.out.lt _ e.symm).2; omega)
      have HO3 := hid (own_laterS HOWN.out HBO.out)
      have HN3 := hid (HNEW.out.step HBO.out)
      have HB3 := hid (Below.step' HB.out HBO.out)
      have hwx : w.heap.size < W1.heap.size := HX.out.lt
      obtain ⟨JI, hJI⟩ : ∃ q, q = JL (its (M1.take i)) (its M2) := ⟨_, rfl⟩
      rw [← hJI] at HIS HST
      clear hJI
      go_upto_region 7 with fail
      rw [← hW2]
      clear hW2 e0 e1
      obtain ⟨cHXO2, fHXO2, sHXO2, nHXO2⟩ := HXO2.out.all
      try simp only [cbox] at cHXO2
      go_wp2_with fail
      clear cHXO2 fHXO2 sHXO2 nHXO2
      -- STOP-b
      go_loopw [7, 14] (fun s7 s14 wr => ∃ (j : Nat) (S2 : List IR), j ≤ M2.length ∧ s14 = .int .i64 j ∧ S2.length ≤ i * 800 + j ∧ Hid (its S2 = JI ++ pjL xr xn u (jv : Int) (its (M2.take j))) ∧ Hid (wr.ownsRow W1.heap.size 67 2 s7 S2.length (rcells S2)) ∧ Hid (RowsNew wr W1.heap.size s7 S2) ∧ Hid (Below W1.heap.size W1 wr) ∧ Hid (Blk wr wo.heap.size #[.slice (some ⟨b2, o2, none⟩) xr.length xk, .int .i64 xn] 67) ∧ Hid (some wo.heap.size ≠ s7.ownBlock)) (fun _ s14 _ => M2.length - (intOf s14).toNat)
      case atStart => exact ⟨0, S, by omega, rfl, by omega, hid (by rw [HIS.out]; simp [pjL]), HO3, HN3, HB3, HX2, HNE0⟩
      case round =>
        obtain ⟨j, S2, hj2, rfl, hS2, HJI, HOJ, HNJ, HBJ, HXJ, HNEJ⟩ := hrel
        obtain ⟨wj, rfl⟩ : ∃ wx : World, wx = wr := ⟨_, rfl⟩
        obtain ⟨A7, c7, rfl⟩ := own_formS HOJ.out
        have hsj := HBJ.out.size
        have HBWJ := hid (Below.step' HB1.out HBJ.out)
        have HXS := hid (HX.out.step HBJ.out)
        have hv3 := HV2.out wj HBWJ.out
        by_cases hjl2 : j < M2.length
        · have t1 : ((j : Int) < (M2.length : Int)) = True := eq_true (by omega)
          obtain ⟨b4, off4, rfl, hb4, g0, g1⟩ := HR2.out.1.it hjl2
          obtain ⟨y1, y2, y3, y4⟩ := HCB.out M2[j] (List.getElem_mem hjl2)
          have HYR := hid ((HR2.out.2 M2[j] (List.getElem_mem hjl2)).1)
          have HPS := hid (HPJ.out xr xn u j hjl2)
          generalize M2[j] = y at *
          obtain ⟨yr, yA, yk, yn⟩ := y
          simp only [IR.it] at g0 g1 HYR HPS y1 y2 y3 y4
          have hjv : jv < yr.length := by omega
          obtain ⟨b5, o5, rfl, hb5, hv5⟩ := HYR.out.int' hjv
          have hcd : colD yr (jv : Int) = yr[jv] := by unfold colD; rw [Int.toNat_natCast, List.getD_eq_getElem?_getD, List.getElem?_eq_getElem hjv]; rfl
          rw [hcd] at HPS
          generalize yr[jv] = v at *
          have hjvl : (jv : Int) < (yr.length : Int) := by omega
          have HGW := hid (fun w1 (hb : Below w.heap.size w w1) => (show w1.cell? ⟨b4, off4 + j * 2, none⟩ = some (.slice (some ⟨b5, o5, none⟩) yr.length yk) ∧ w1.cell? ⟨b4, off4 + j * 2 + 1, none⟩ = some (.int .i64 yn) ∧ w1.cell? ⟨b5, o5 + jv, none⟩ = some (.int .i64 v) from ⟨((bcell hb).1 b4 _ hb4).trans g0, ((bcell hb).1 b4 _ hb4).trans g1, ((bcell hb).1 b5 _ hb5).trans hv5⟩))
          obtain ⟨gj0, gj1, gj2⟩ := HGW.out wj HBWJ.out
          clear hcd y3 g0 g1 hv5
          obtain ⟨cHXJ, fHXJ, sHXJ, nHXJ⟩ := HXJ.out.all
          try simp only [cbox] at cHXJ
          obtain ⟨cHXS, fHXS, sHXS, nHXS⟩ := HXS.out.all
          try simp only [cbox] at cHXS
          by_cases quv : v = u
          · have t2 : (u == v) = true := by simp [quv]
            rw [if_pos quv] at HPS
            clear quv
            go_wp2_with fail
            -- STOP-c
            refine wp_region_quiet_lit (by kernel_rfl) (by kernel_rfl) ?_
            repeat (any_goals ((with_reducible refine wpQuiet_step (fun K hK => ?_)); go_simp; first | (with_reducible refine hK _ ?_; clear hK K) | ((with_reducible apply Exists.intro); (with_reducible refine ⟨fun _ => ?_, hK _ ?_⟩); (fail); clear hK K) | ((with_reducible refine (if_neg ?_).mpr (hK _ ?_)); (decide); clear hK K) | (split <;> (with_reducible refine hK _ ?_; clear hK K))))
            all_goals ((with_reducible refine wpQuiet_nil ?_); intro _ hw'; obtain ⟨nq, hw''⟩ := hw'; subst hw'')
            have HBK := hid (show Below wj.heap.size wj (wj.drewN nq) from below_drewN (Below.refl _ _) nq)
            obtain ⟨wk, hwk⟩ : ∃ wk, wk = wj.drewN nq := ⟨_, rfl⟩
            rw [← hwk] at HBK ⊢
            clear hwk
            -- STOP-c2
            clear cHXS fHXS sHXS nHXS
            obtain ⟨pn, hpn⟩ : ∃ q, q = wrp (xn * yn) := ⟨_, rfl⟩
            have hwp : IntKind.i64.wrap (xn * yn) = pn := hpn.symm
            rw [← hpn] at HPS
            clear hpn
            have hbd : Below wj.heap.size wj wk.drew := Below.drew HBK.out
            have HXRW := hid (fun w1 (hb : Below wj.heap.size wj w1) => HXR.out.below (Below.step' HBWJ.out hb) (Nat.le_refl _))
            have HYRW := hid (fun w1 (hb : Below wj.heap.size wj w1) => HYR.out.below (Below.step' HBWJ.out hb) (Nat.le_refl _))
            have HGJ := hid (fun w1 (hb : Below wj.heap.size wj w1) => HGW.out w1 (Below.step' HBWJ.out hb))
            have hbxj : wo.heap.size < wj.heap.size := HXJ.out.lt
            have HXC := hid (fun w1 (hb : Below wj.heap.size wj w1) => (show w1.cell? ⟨wo.heap.size, 0, none⟩ = some (.slice (some ⟨b2, o2, none⟩) xr.length xk) ∧ w1.cell? ⟨wo.heap.size, 1, none⟩ = some (.int .i64 xn) from ⟨((bcell hb).1 _ _ hbxj).trans (by rw [cHXJ]; rfl), ((bcell hb).1 _ _ hbxj).trans (by rw [cHXJ]; rfl)⟩))
            have hlx : (icells' xr).length = xr.length * 1 := by simp
            have hly : (icells' yr).length = yr.length * 1 := by simp
            have hmxx : 0 + xr.length ≤ maxLen := by simp only [maxLen]; omega
            have hbyx : (0 + xr.length) * 8 ≤ 140737488355328 := by omega
            have hmxy : xr.length + yr.length ≤ maxLen := by simp only [maxLen]; omega
            have hbyy : (xr.length + yr.length) * 8 ≤ 140737488355328 := by omega
            have hmx3 : S2.length + 1 ≤ maxLen := by simp only [maxLen]; omega
            have hby3 : (S2.length + 1) * 32 ≤ 140737488355328 := by omega
            obtain ⟨gd0, gd1, -⟩ := HGJ.out _ HBK.out
            obtain ⟨xd0, xd1⟩ := HXC.out _ HBK.out
            have hwk := HBK.out.size
            have hbkd : Below wk.heap.size wk wk.drew := Below.drew (Below.refl _ _)
            have hxd : Row wk.drew w.heap.size (some ⟨b2, o2, none⟩) (icells' xr) := HXRW.out _ hbd
            have hyd := fun w1 (hb : Below wk.heap.size wk w1) => HYRW.out w1 (Below.step' HBK.out hb)
            have hsd : wk.heap.size ≤ wk.drew.heap.size := Nat.le_refl _
            have hok := own_laterS HOJ.out HBK.out
            have hbx : wo.heap.size < wk.heap.size := Nat.lt_of_lt_of_le hbxj hwk
            have hby : b4 < wk.heap.size := by omega
            have hWm : W1.heap.size ≤ wk.heap.size := Nat.le_trans hsj hwk
            have hnxo : some wo.heap.size = (Value.slice A7 S2.length c7).ownBlock → False := fun e => HNEJ.out e
            have hnyo : some b4 = (Value.slice A7 S2.length c7).ownBlock → False := fun e => by have := (HOJ.out.lt _ e.symm).1; omega
            have HYD := hid hyd
            clear hyd
            go_wp2_with fail
            -- STOP-d
            go_region_held3 (fun w' => (∀ o, w'.cell? ⟨wo.heap.size, o, none⟩ = wk.cell? ⟨wo.heap.size, o, none⟩) ∧ (∀ o, w'.cell? ⟨b4, o, none⟩ = wk.cell? ⟨b4, o, none⟩) ∧ Below W1.heap.size wk w')
              ((go_split_ands; first | (with_reducible exact ⟨fun _ => rfl, fun _ => rfl, (Below.refl _ _).drew⟩) | (with_reducible exact ⟨y51, y52, z5⟩) | (with_reducible exact ⟨y61, y62, z6⟩) | (with_reducible exact ⟨ya1 _, ya2 _, za _⟩) | (with_reducible exact ⟨y71, y72, z7⟩)))
              (first
                | (go_split_ands; refine step_append_row elem_int (by rfl) _ _ (by rfl) wk.heap.size (.slice none 0 0) 0 [] (by rfl) (World.ownsRow_nil _ _ _ _) (some ⟨b2, o2, none⟩) xr.length xk w.heap.size (icells' xr) (by rfl) hlx hxd (icellsQ_one xr) hmxx hbyx hsd ?_; intro vA wA hownA hgA hifA; rw [Nat.zero_add, List.nil_append] at hownA; obtain ⟨A6, c6, rfl⟩ := own_formS hownA; have hbA : Below wk.heap.size wk wA := Below.grown hbkd hgA hsd (fun g e => nomatch e); have y51 := fun o => (bcell hbA).1 wo.heap.size o hbx; have y52 := fun o => (bcell hbA).1 b4 o hby; have z5 : Below W1.heap.size wk wA := hbA.mono hWm)
                | (go_split_ands; refine step_append_row elem_int (by rfl) _ _ (by rfl) wk.heap.size (.slice A6 xr.length c6) xr.length (icells' xr) (by rfl) hownA (some ⟨b5, o5, none⟩) yr.length yk w.heap.size (icells' yr) (by rfl) hly (HYD.out _ hbA) (icellsQ_one yr) hmxy hbyy (Below.size hbA) ?_; intro vB wB hownB hgB hifB; obtain ⟨A8, c8, rfl⟩ := own_formS hownB; have hbB : Below wk.heap.size wk wB := Below.grown hbA hgB (Below.size hbA) (fun g e => (World.ownsRow.lt hownA g e).1); have y61 := fun o => (bcell hbB).1 wo.heap.size o hbx; have y62 := fun o => (bcell hbB).1 b4 o hby; have z6 : Below W1.heap.size wk wB := hbB.mono hWm; have ya1 := fun (ob : Obj) o => (bcell (hbB.alloc (Below.size hbB) ob)).1 wo.heap.size o hbx; have ya2 := fun (ob : Obj) o => (bcell (hbB.alloc (Below.size hbB) ob)).1 b4 o hby; have za := fun (ob : Obj) => (hbB.alloc (Below.size hbB) ob).mono hWm; have hszB : wk.heap.size ≤ wB.heap.size := Below.size hbB)
                | (go_split_ands; refine step_append_row elem_item (by rfl) _ _ (by rfl) W1.heap.size (.slice A7 S2.length c7) S2.length (rcells S2) (by rfl) (World.ownsRow.alloc (own_laterS hok hbB) _) (some ⟨wB.heap.size, 0, none⟩) 1 1 (wB.heap.size + 1) [.slice A8 (xr.length + yr.length) c8, .int .i64 pn] (by rfl) (by rfl) (Row.new' wB _ _ rfl rfl (Nat.lt_succ_self _)) (two_oneC _ _ _ _) hmx3 hby3 (Nat.le_trans (Nat.le_trans hWm hszB) (le_alloc _ _)) ?_; intro v7 w7 hown7 hg7 hif7; have y71 := fun o => (keepG hg7 (Nat.lt_of_lt_of_le (Nat.lt_of_lt_of_le hbx hszB) (le_alloc _ _)) hnxo o).trans (ya1 _ o); have y72 := fun o => (keepG hg7 (Nat.lt_of_lt_of_le (Nat.lt_of_lt_of_le hby hszB) (le_alloc _ _)) hnyo o).trans (ya2 _ o); have z7 : Below W1.heap.size wk w7 := (za _).grown hg7 (Nat.le_trans (Nat.le_trans hWm hszB) (le_alloc _ _)) (fun q e => (World.ownsRow.lt hok q e).1)))
            -- STOP-e
            all_goals
              go_wp2_with fail
              have hbBj : Below wj.heap.size wj wB := Below.step' HBK.out hbB
              have hwB := hbBj.size
              have hba := hbBj.alloc hwB (.cells #[.slice A8 (xr.length + yr.length) c8, .int .i64 pn] 67)
              have HIN : Hid (∀ b off q, A8 = some ⟨b, off, q⟩ → wj.heap.size ≤ b ∧ b < wB.heap.size) := hid (fun b off q e => ⟨Nat.le_trans hwk (hownB.lt b (by rw [e]; rfl)).1, (hownB.lt b (by rw [e]; rfl)).2⟩)
              have HRO6 := hid (RowOwn.of_own (l := xr ++ yr) (show wB.ownsRow wk.heap.size 3 1 (.slice A8 (xr.length + yr.length) c8) (xr.length + yr.length) (icells' (xr ++ yr)) by simpa using hownB) (List.length_append ..).symm)
              have HO7 := hid hown7
              have HG7 := hid hg7
              have HIF := hid hif7
              have HBA := hid hba
              clear hown7 hg7 hif7 hownA hownB hgA hgB hifA hifB hba y51 y52 z5 y61 y62 z6 ya1 ya2 za y71 y72 z7 hok hxd
              go_roundw
              case rel =>
                have hA8 : ∀ b off q, A8 = some ⟨b, off, q⟩ → some b ≠ (Value.slice A7 S2.length c7).ownBlock := fun b off q e e2 => by
                  have q1 := (HIN.out b off q e).1
                  have q2 := (HOJ.out.lt b e2.symm).2
                  omega
                have hln : (xr ++ yr).length = xr.length + yr.length := List.length_append ..
                have hsz7 := HG7.out.size
                simp at hsz7
                have hr9 := ((HRO6.out.step (alloc_below (Below.refl _ _) (.cells #[.slice A8 (xr.length + yr.length) c8, .int .i64 pn] 67))).grown_ne (Nat.le_refl _) HG7.out hA8).more HG7.out.size
                refine ⟨j + 1, S2 ++ [⟨xr ++ yr, A8, c8, pn⟩], by omega, by go_num, by simp; omega, hid ?_, hid ?_, hid ?_, hid ?_, hid ?_, hid ?_⟩
                · rw [HPS.out, ← List.append_assoc, ← HJI.out]
                  show (S2 ++ [(⟨xr ++ yr, A8, c8, pn⟩ : IR)]).map IR.it = _
                  rw [List.map_append]; rfl
                · rw [rcells_snoc, List.length_append]
                  simp only [IR.cells, hln]
                  exact HO7.out
                · refine RowsNew.snoc ((HNJ.out.step HBA.out).grown HG7.out HIF.out) (x := (⟨xr ++ yr, A8, c8, pn⟩ : IR)) hr9 (fun b off q e => by have := (HIN.out b off q e).1; omega) (fun b off q e => ?_) (by simp only [hln]; omega)
                  have hlt9 := (HIN.out b off q e).2
                  refine ⟨?_, by omega⟩
                  rcases HIF.out with h | h
                  · rw [h]; exact hA8 b off q e
                  · rw [h]; intro e2; injection e2 with e2; simp at e2; omega
                · exact (HBJ.out.trans (HBA.out.mono hsj)).grown HG7.out (by simp; omega) (fun g e => (HOJ.out.lt g e).1)
                · exact (HXJ.out.step HBA.out).grown HG7.out (fun e => HNEJ.out e)
                · rcases HIF.out with h | h
                  · rw [h]; exact HNEJ.out
                  · rw [h]; intro e2; injection e2 with e2; simp at e2; omega
              case measure => simp [intOf]; omega
          · have t2 : (u == v) = false := by simp; exact fun e => quv e.symm
            rw [if_neg quv, List.append_nil] at HPS
            clear quv
            go_wp2_with fail
            refine wp_region_quiet_lit (by kernel_rfl) (by kernel_rfl) ?_
            repeat (any_goals ((with_reducible refine wpQuiet_step (fun K hK => ?_)); go_simp; first | (with_reducible refine hK _ ?_; clear hK K) | ((with_reducible apply Exists.intro); (with_reducible refine ⟨fun _ => ?_, hK _ ?_⟩); (fail); clear hK K) | ((with_reducible refine (if_neg ?_).mpr (hK _ ?_)); (decide); clear hK K) | (split <;> (with_reducible refine hK _ ?_; clear hK K))))
            all_goals ((with_reducible refine wpQuiet_nil ?_); intro _ hw'; obtain ⟨nq, hw''⟩ := hw'; subst hw'')
            go_wp2_with fail
            -- STOP-f
            go_roundw
            case rel => exact ⟨j + 1, S2, by omega, by go_num, by omega, hid (by rw [HJI.out, HPS.out]), hid (own_laterS HOJ.out (below_drewN (Below.refl _ _) _)), hid (HNJ.out.step (below_drewN (Below.refl _ _) _)), hid (below_drewN HBJ.out _), hid (HXJ.out.step (below_drewN (Below.refl _ _) _)), HNEJ⟩
            case measure => simp [intOf]; omega
        · have t1 : ((j : Int) < (M2.length : Int)) = False := eq_false (by omega)
          have hje : j = M2.length := by omega
          rw [hje, List.take_length] at HJI
          go_wp2_with fail
          -- STOP-g
          go_roundw
          case rel => exact ⟨i + 1, S2, by omega, by go_num, by first | rfl | trivial, by rw [Nat.succ_mul]; omega, hid (by rw [HJI.out, HST.out]), HOJ, HNJ, HBJ⟩
          case measure => simp [intOf]; omega
    · have hik : i = M1.length := by omega
      subst hik
      rw [List.take_length] at HIS
      have HXE := hid (HX.out.step HB.out)
      obtain ⟨cHXE, fHXE, sHXE, nHXE⟩ := HXE.out.all
      try simp only [cbox] at cHXE
      go_wp2_with (go_at_call 81; refine (HON.out _).mono ?_; rintro e w2 ⟨AK, kK, rfl, hb2⟩; have HBK := hid hb2)
      -- STOP-y
      go_wp2_with fail
      go_loopw [7, 15] (fun s7 s15 wx => s7 = .slice A5 S.length c5 ∧ s15 = .int .i64 0 ∧ wx = w2) (fun _ _ _ => 0)
      case atStart => exact ⟨rfl, rfl, rfl⟩
      case round =>
        obtain ⟨rfl, rfl, rfl⟩ := hrel
        go_wp2_with fail
        go_ret
        exact ⟨A5, c5, S, rfl, by rw [HIS.out], ⟨Row.of_ownS (own_laterS HOWN.out HBK.out), (HNEW.out.step HBK.out).rows⟩, Below.step' HBW.out HBK.out⟩
end Go.Proofs.YtldlmkfigjicgaaGreatDoor
/- Numbers rising, each once. -/
namespace Go.Proofs.YtldlmkfigjicgaaGreatDoor
set_option linter.unusedVariables false

/-! Numbers rising, each once. -/
theorem cu_rise (s : List Int) (hs : s.Pairwise (fun x y => x ≤ y)) : ∀ i, i ≤ s.length → (cu s i).Pairwise (fun x y => x < y) ∧ ∀ x, x ∈ cu s i ↔ x ∈ s.take i
  | 0, _ => by simp [cu_zero]
  | i + 1, h => by
    obtain ⟨h1, h2⟩ := cu_rise s hs i (by omega)
    have hi : i < s.length := by omega
    rw [cu_succ s i hi, List.take_succ_eq_append_getElem hi]
    by_cases q : i = 0 ∨ s[i] ≠ s[i - 1]'(by omega)
    · rw [if_pos q]
      refine ⟨List.pairwise_append.2 ⟨h1, by simp, ?_⟩, fun x => by rw [List.mem_append, List.mem_append, h2]⟩
      intro x hx y hy
      rw [List.mem_singleton.1 hy]
      obtain ⟨j, hj, rfl⟩ := List.getElem_of_mem ((h2 x).1 hx)
      rw [List.length_take] at hj
      rw [List.getElem_take]
      have hji : j < i := by omega
      rcases q with q | q
      · omega
      · have a1 : s[j] ≤ s[i - 1]'(by omega) := by
          by_cases e : j = i - 1
          · subst e; exact Int.le_refl _
          · exact List.pairwise_iff_getElem.1 hs j (i - 1) (by omega) (by omega) (by omega)
        have a2 : s[i - 1]'(by omega) ≤ s[i] := List.pairwise_iff_getElem.1 hs (i - 1) i (by omega) hi (by omega)
        omega
    · rw [if_neg q, List.append_nil]
      refine ⟨h1, fun x => ?_⟩
      rw [h2, List.mem_append, List.mem_singleton]
      simp only [not_or, ne_eq, Decidable.not_not] at q
      constructor
      · exact .inl
      · rintro (hx | rfl)
        · exact hx
        · rw [q.2, List.mem_iff_getElem]
          exact ⟨i - 1, by rw [List.length_take]; omega, by rw [List.getElem_take]⟩
theorem isort_sorted (l : List Int) : (isort l).Pairwise (fun x y => x ≤ y) := by
  have h := List.pairwise_mergeSort (le := fun x y : Int => decide (x ≤ y)) (fun a b c h1 h2 => by simp only [decide_eq_true_eq] at *; omega) (fun a b => by simp only [Bool.or_eq_true, decide_eq_true_eq]; omega) l
  exact h.imp fun h => by simpa using h
theorem once_rise (l : List Int) : (onceI l).Pairwise (fun x y => x < y) := by
  unfold onceI
  rw [← cu_all]
  exact (cu_rise _ (isort_sorted l) _ (Nat.le_refl _)).1
theorem once_mem (l : List Int) (x : Int) : x ∈ onceI l ↔ x ∈ l := by
  unfold onceI
  rw [← cu_all, (cu_rise _ (isort_sorted l) _ (Nat.le_refl _)).2, List.take_length]
  unfold isort
  exact List.mem_mergeSort
theorem rise_nodup {l : List Int} (h : l.Pairwise (fun x y => x < y)) : l.Nodup := h.imp fun {x y} hxy e => by omega
end Go.Proofs.YtldlmkfigjicgaaGreatDoor
/- viewref.made: count. -/
namespace Go.Proofs.YtldlmkfigjicgaaGreatDoor
set_option linter.unusedVariables false
set_option linter.unusedSimpArgs false
open Go.ChangeShapes Go.WideShapes Go.ChangeAt Go.RowKit

theorem keys_perm (s : St) (A : List It) : (onceI (A.map (fun x => colD x.1 s.col))).Perm (keysG s A) :=
  (List.perm_ext_iff_of_nodup (rise_nodup (once_rise _)) (dedupI_nodup _)).2 fun x => by rw [once_mem]; exact (dedupI_mem _ _).symm
/-- The groups, in the order of their numbers. -/
def grpsL (s : St) (A : List It) (K : List Int) : List It := K.flatMap (fun k => toldL s k (grpN s A k) (grpS s A k))
theorem grps_perm (s : St) (A : List It) : (grpsL s A (onceI (A.map (fun x => colD x.1 s.col)))).Perm (groupL s A) := flatMap_perm (keys_perm s A)
theorem grpsL_snoc (s : St) (A : List It) (K : List Int) (k : Nat) (h : k < K.length) : grpsL s A (K.take (k + 1)) = grpsL s A (K.take k) ++ toldL s K[k] (grpN s A K[k]) (grpS s A K[k]) := by
  unfold grpsL
  rw [List.take_succ_eq_append_getElem h, List.flatMap_append]; simp
theorem once_lenI (l : List Int) : (onceI l).length ≤ l.length := by
  unfold onceI
  exact Nat.le_trans (compact_len _) (by rw [isort_len]; exact Nat.le_refl _)

theorem drewN2 (w : World) (a b : Nat) : (w.drewN a).drewN b = w.drewN (a + b) := World.drewN_drewN w a b
theorem drewN3 (w : World) (a b c : Nat) : ((w.drewN a).drewN b).drewN c = w.drewN (a + b + c) := by rw [drewN2, drewN2, Nat.add_assoc]
theorem blk_rowOwn2 {w : World} {b : Nat} {x y : Int} (h : Blk w b #[.int .i64 x, .int .i64 y] 3) : RowOwn w (some ⟨b, 0, none⟩) [x, y] 2 :=
  RowOwn.of_own (B := b) (n := 2) ⟨by simp, .inr ⟨b, 2, _, rfl, Nat.le_refl _, h, Nat.le_refl _, by decide, by simp, by simp⟩⟩ rfl
set_option maxHeartbeats 1000000 in
set_option maxRecDepth 100000 in
theorem made_k8 (sa sb sc so sv : Int) (sl : List Int) (sA : Option Addr) (sK : Nat) (M1 M2 : List IR) (A1 A2 : Option Addr) (c1 c2 : Nat) (w : World) (hr : RowI w w.heap.size A1 M1) (hl : M1.length ≤ 800) (hc : 0 ≤ sc ∧ ∀ y ∈ M1, sc < (y.row.length : Int)) (hv : 0 ≤ sv ∧ ∀ y ∈ M1, sv < (y.row.length : Int)) :
    Calls Tryz.prog 57 #[.agg #[.int .i64 8, .int .i64 sa, .int .i64 sb, .int .i64 sc, .int .i64 so, .int .i64 sv, .slice sA sl.length sK], .slice A1 M1.length c1, .slice A2 M2.length c2] w (PermPost (groupL ⟨8, sa, sb, sc, so, sv, sl⟩ (its M1)) w) := by
  obtain ⟨hc0, hc1⟩ := hc
  obtain ⟨hv0, hv1⟩ := hv
  obtain ⟨jc, rfl⟩ : ∃ j : Nat, sc = (j : Int) := ⟨sc.toNat, by omega⟩
  obtain ⟨jv, rfl⟩ : ∃ j : Nat, sv = (j : Int) := ⟨sv.toNat, by omega⟩
  have HR := hid hr
  have HC := hid hc1
  have HV := hid hv1
  obtain ⟨s, hs⟩ : ∃ s : St, s = ⟨8, sa, sb, (jc : Int), so, (jv : Int), sl⟩ := ⟨_, rfl⟩
  have HSN := hid (fun (A : List It) (x : It) (k : Int) => show grpN s (A ++ [x]) k = if colD x.1 (jc : Int) = k then wrp (grpN s A k + x.2) else grpN s A k by rw [show (jc : Int) = s.col by rw [hs]]; exact grpN_snoc s A x k)
  have HTL := hid (fun q n m => show toldL s q n m = if n = 0 then [] else [([q, n], 1)] by unfold toldL; rw [show s.kind = 8 by rw [hs]]; simp)
  have HN0 := hid (fun k => show grpN s [] k = 0 by unfold grpN totF; rfl)
  have HPM := hid (show (grpsL s (its M1) (onceI (M1.map (fun x => colD x.row (jc : Int))))).Perm (groupL s (its M1)) by
    have := grps_perm s (its M1)
    rw [show s.col = (jc : Int) by rw [hs]] at this
    simpa [its, Function.comp_def] using this)
  rw [← hs]
  clear hs hr hc1 hv1
  obtain ⟨W1, hW1⟩ : ∃ W1 : World, W1 = w.alloc (.cells #[.int .i64 8, .int .i64 sa, .int .i64 sb, .int .i64 (jc : Int), .int .i64 so, .int .i64 (jv : Int), .slice sA sl.length sK] 89) := ⟨_, rfl⟩
  have HX := hid (show Blk W1 w.heap.size #[.int .i64 8, .int .i64 sa, .int .i64 sb, .int .i64 (jc : Int), .int .i64 so, .int .i64 (jv : Int), .slice sA sl.length sK] 89 by rw [hW1]; exact Blk.new _ _ _)
  have HB1 := hid (show Below w.heap.size w W1 by rw [hW1]; (repeat' (first | (with_reducible exact Below.refl _ _) | (with_reducible assumption) | (with_reducible refine below_drewN ?_ _) | (with_reducible refine Below.drew ?_) | (with_reducible refine Below.alloc ?_ ?_ _) | (with_reducible refine Below.setCell ?_ ?_ _) | (refine Below.trans ?_ (Below.mono (by assumption) ?_)) | go_size)))
  have hs1 := HB1.out.size
  go_enter Tryz.func57, Tryz.ntmps57
  go_wp2_with fail
  rw [← hW1]
  clear hW1
  -- STOP-a
  go_loopw [7, 8, 9] (fun s7 s8 s9 wr => ∃ i : Nat, i ≤ M1.length ∧ s9 = .int .i64 i ∧ s7 = .slice none 0 0 ∧ Hid (wr.ownsRow W1.heap.size 3 1 s8 i (icells' ((M1.take i).map (fun x => colD x.row (jc : Int))))) ∧ Hid (Below W1.heap.size W1 wr)) (fun _ _ s9 _ => M1.length - (intOf s9).toNat)
  case atStart => exact ⟨0, by omega, rfl, rfl, hid (by simpa using World.ownsRow_nil _ _ _ _), hid (Below.refl _ _)⟩
  case round =>
    obtain ⟨i, hi, rfl, rfl, HOWN, HB⟩ := hrel
    obtain ⟨A5, c5, rfl⟩ := own_formS HOWN.out
    have hsw := HB.out.size
    have HBW := hid (Below.step' HB1.out HB.out)
    by_cases hlt : i < M1.length
    · obtain ⟨b, off, rfl, hb, e0, e1⟩ := (HR.out.1.step HBW.out).it hlt
      have hcx := HC.out M1[i] (List.getElem_mem hlt)
      obtain ⟨xl, xll⟩ := (HR.out.2.step HBW.out) M1[i] (List.getElem_mem hlt)
      have HFI := hid (show (M1.take (i + 1)).map (fun x => colD x.row (jc : Int)) = (M1.take i).map (fun x => colD x.row (jc : Int)) ++ [colD M1[i].row (jc : Int)] by rw [List.take_succ_eq_append_getElem hlt, List.map_append]; rfl)
      generalize M1[i] = x at *
      obtain ⟨xr, xA, xk, xn⟩ := x
      simp only at e0 e1 xl xll hcx HFI
      have hj : jc < xr.length := by omega
      obtain ⟨b2, o2, rfl, hb2, hv2⟩ := xl.int' hj
      have hcd : colD xr (jc : Int) = xr[jc] := by unfold colD; rw [Int.toNat_natCast, List.getD_eq_getElem?_getD, List.getElem?_eq_getElem hj]; rfl
      rw [hcd] at HFI
      generalize xr[jc] = u at *
      have hneb2 : (b2 = wr.heap.size) = False := by simp; omega
      have hjl : (jc : Int) < (xr.length : Int) := by omega
      clear hcd hcx xl
      have hneb : (b = wr.heap.size) = False := by simp; omega
      obtain ⟨O, hO⟩ : ∃ O, O = (M1.take i).map (fun x => colD x.row (jc : Int)) := ⟨_, rfl⟩
      rw [← hO] at HOWN HFI
      clear hO
      obtain ⟨wo, rfl⟩ : ∃ wx : World, wx = wr := ⟨_, rfl⟩
      have HXO := hid (HX.out.step HB.out)
      obtain ⟨W2, hW2⟩ : ∃ W2 : World, W2 = wo.alloc (.cells #[.slice (some ⟨b2, o2, none⟩) xr.length xk, .int .i64 xn] 67) := ⟨_, rfl⟩
      have HX2 := hid (show Blk W2 wo.heap.size #[.slice (some ⟨b2, o2, none⟩) xr.length xk, .int .i64 xn] 67 by rw [hW2]; exact Blk.new _ _ _)
      have HBO := hid (show Below wo.heap.size wo W2 by rw [hW2]; exact alloc_below (Below.refl _ _) _)
      have HO2 := hid (show W2.ownsRow W1.heap.size 3 1 (.slice A5 i c5) i (icells' O) by rw [hW2]; exact HOWN.out.alloc _)
      replace HXO := hid (HXO.out.step HBO.out)
      have hv3 := ((bcell HBO.out).1 b2 _ hb2).trans hv2
      have hb3 : b2 < W2.heap.size := Nat.lt_of_lt_of_le hb2 HBO.out.size
      go_upto_region 7 with fail
      rw [← hW2]
      clear hW2 hv2 e0 e1
      obtain ⟨cHXO, fHXO, sHXO, nHXO⟩ := HXO.out.all
      try simp only [cbox] at cHXO
      obtain ⟨cHX2, fHX2, sHX2, nHX2⟩ := HX2.out.all
      try simp only [cbox] at cHX2
      -- STOP-b
      go_wp2_with (at_builtin; refine wpList_append_row elem_int rfl _ _ rfl W1.heap.size _ _ _ rfl (HO2.out.alloc _) (some ⟨W2.heap.size, 0, none⟩) 1 1 (W2.heap.size + 1) (icells' [u]) rfl rfl (by exact Row.new' W2 _ _ rfl rfl (Nat.lt_succ_self _)) (icellsQ_one [u]) ?_ ?_ ?_ ?_; rotate_right; intro v7 w7 hown7 hg7 hif7; rotate_left; (simp only [maxLen]; omega); (omega); (have := HBO.out.size; simp; omega))
      have HOW7 := hid hown7
      have HG7 := hid hg7
      clear hown7 hg7 hif7
      go_roundw
      case rel =>
        refine ⟨i + 1, by omega, by go_num, by first | rfl | trivial, hid ?_, hid (Below.grown (alloc_below (HB.out.trans (HBO.out.mono hsw)) _) HG7.out (by have := HBO.out.size; simp; omega) (fun g e => (HO2.out.lt g e).1))⟩
        rw [HFI.out, icellsQ_snoc]
        exact HOW7.out
      case measure => simp [intOf]; omega
    · have hik : i = M1.length := by omega
      subst hik
      rw [List.take_length] at HOWN
      have HXE := hid (HX.out.step HB.out)
      have hkl : (M1.map (fun x => colD x.row (jc : Int))).length = M1.length := List.length_map ..
      have HON := hid (once_any (M1.map (fun x => colD x.row (jc : Int))) A5 c5 wr (Row.of_ownS HOWN.out) (by omega))
      rw [hkl] at HON
      have hKl := once_lenI (M1.map (fun x => colD x.row (jc : Int)))
      rw [hkl] at hKl
      obtain ⟨K, hK⟩ : ∃ K, K = onceI (M1.map (fun x => colD x.row (jc : Int))) := ⟨_, rfl⟩
      rw [← hK] at HON HPM hKl
      clear hK hkl
      obtain ⟨cHXE, fHXE, sHXE, nHXE⟩ := HXE.out.all
      try simp only [cbox] at cHXE
      go_wp2_with fail
      -- STOP-c
      refine HON.out.mono ?_
      rintro e w2 ⟨vK, rfl, hoK, hbK⟩
      obtain ⟨AK, cK, rfl⟩ := own_formS hoK
      have HBK := hid hbK
      have HXK := hid (HXE.out.step hbK)
      have HRK := hid (show Row w2 w2.heap.size AK (icells' K) from Row.of_ownS hoK)
      have HBWK := hid (Below.step' HBW.out hbK)
      clear cHXE fHXE sHXE nHXE
      clear hoK hbK
      go_wp2_with fail
      -- STOP-d
      go_loopw [7, 15] (fun s7 s15 wr => ∃ (k : Nat) (S : List IR), k ≤ K.length ∧ s15 = .int .i64 k ∧ S.length ≤ k ∧ Hid (its S = grpsL s (its M1) (K.take k)) ∧ Hid (wr.ownsRow w2.heap.size 67 2 s7 S.length (rcells S)) ∧ Hid (RowsNew wr w2.heap.size s7 S) ∧ Hid (Below w2.heap.size w2 wr)) (fun _ s15 _ => K.length - (intOf s15).toNat)
      case atStart => exact ⟨0, [], by omega, rfl, by simp, hid (by simp [its, grpsL]), hid (World.ownsRow_nil _ _ _ _), hid (RowsNew.nil _ _ _), hid (Below.refl _ _)⟩
      case round =>
        obtain ⟨k, S, hk, rfl, hSk, HIS, HOS, HNS, HBS⟩ := hrel
        obtain ⟨A7, c7, rfl⟩ := own_formS HOS.out
        obtain ⟨wk, rfl⟩ : ∃ wx : World, wx = wr := ⟨_, rfl⟩
        have hsk := HBS.out.size
        have HB8 := hid (Below.step' HBWK.out HBS.out)
        have HXS := hid (HXK.out.step HBS.out)
        by_cases hkl : k < K.length
        · have t1 : ((k : Int) < (K.length : Int)) = True := eq_true (by omega)
          obtain ⟨bK, oK, rfl, hbK, hvK⟩ := (HRK.out.step HBS.out).int' hkl
          have HSS4 := hid (grpsL_snoc s (its M1) K k hkl)
          generalize K[k] = q at *
          go_wp2_with fail
          -- STOP-e
          go_loopw [16, 17, 18] (fun s16 s17 s18 wr => ∃ (i : Nat) (n m : Int) (nw : Nat), i ≤ M1.length ∧ s18 = .int .i64 i ∧ s16 = .int .i64 n ∧ s17 = .int .i64 m ∧ Hid (n = grpN s (its (M1.take i)) q) ∧ Hid (True) ∧ wr = wk.drewN nw) (fun _ _ s18 _ => M1.length - (intOf s18).toNat)
          case atStart => exact ⟨0, 0, 0, 0, by omega, rfl, rfl, rfl, hid (by simpa using (HN0.out q).symm), hid trivial, rfl⟩
          case round =>
            obtain ⟨i, n, m, nw, hi, rfl, rfl, rfl, HGN, HGS, rfl⟩ := hrel
            by_cases hlt : i < M1.length
            · have t2 : ((i : Int) < (M1.length : Int)) = True := eq_true (by omega)
              obtain ⟨b, off, rfl, hb, e0, e1⟩ := (HR.out.1.step HB8.out).it hlt
              have hcx := HC.out M1[i] (List.getElem_mem hlt)
              have hvx := HV.out M1[i] (List.getElem_mem hlt)
              obtain ⟨xl, xll⟩ := (HR.out.2.step HB8.out) M1[i] (List.getElem_mem hlt)
              have HTI := hid (show its (M1.take (i + 1)) = its (M1.take i) ++ [M1[i].it] by rw [List.take_succ_eq_append_getElem hlt, its, List.map_append]; rfl)
              generalize M1[i] = x at *
              obtain ⟨xr, xA, xk, xn⟩ := x
              simp only [IR.it] at e0 e1 xl xll hcx hvx HTI
              have hj : jc < xr.length := by omega
              have hj2 : jv < xr.length := by omega
              obtain ⟨b2, o2, rfl, hb2, hv2⟩ := xl.int' hj
              obtain ⟨b2', o2', hA2, hb2', hv2'⟩ := xl.int' hj2
              injection hA2 with hA2
              injection hA2 with hA2 hA2'
              subst hA2 hA2'
              have HCD := hid (show colD xr (jc : Int) = xr[jc] by unfold colD; rw [Int.toNat_natCast, List.getD_eq_getElem?_getD, List.getElem?_eq_getElem hj]; rfl)
              have HCV := hid (show colD xr (jv : Int) = xr[jv] by unfold colD; rw [Int.toNat_natCast, List.getD_eq_getElem?_getD, List.getElem?_eq_getElem hj2]; rfl)
              generalize xr[jc] = u at *
              generalize xr[jv] = v at *
              have hjl : (jc : Int) < (xr.length : Int) := by omega
              have hjl2 : (jv : Int) < (xr.length : Int) := by omega
              have HNI := hid (show grpN s (its (M1.take (i + 1))) q = if u = q then wrp (n + xn) else n by rw [HTI.out, HSN.out, HCD.out, ← HGN.out])
              clear hcx hvx hb2' xl
              obtain ⟨cHXS, fHXS, sHXS, nHXS⟩ := HXS.out.all
              try simp only [cbox] at cHXS
              by_cases quq : u = q
              · have t3 : (u == q) = true := by simp [quq]
                replace HNI := hid (HNI.out.trans (if_pos quq))
                obtain ⟨n2, hn2⟩ : ∃ z, z = wrp (n + xn) := ⟨_, rfl⟩
                have hwn : IntKind.i64.wrap (n + xn) = n2 := hn2.symm
                obtain ⟨p2, hp2⟩ : ∃ z, z = wrp (xn * v) := ⟨_, rfl⟩
                have hwp : IntKind.i64.wrap (xn * v) = p2 := hp2.symm
                obtain ⟨m2, hm2⟩ : ∃ z, z = wrp (m + p2) := ⟨_, rfl⟩
                have hwm : IntKind.i64.wrap (m + p2) = m2 := hm2.symm
                rw [← hn2] at HNI
                clear quq hn2 hp2 hm2
                go_wp2_with fail
                -- STOP-f
                refine wp_region_quiet_lit (by kernel_rfl) (by kernel_rfl) ?_
                repeat (any_goals ((with_reducible refine wpQuiet_step (fun K hK => ?_)); go_simp; first | (with_reducible refine hK _ ?_; clear hK K) | ((with_reducible apply Exists.intro); (with_reducible refine ⟨fun _ => ?_, hK _ ?_⟩); (fail); clear hK K) | ((with_reducible refine (if_neg ?_).mpr (hK _ ?_)); (decide); clear hK K) | (split <;> (with_reducible refine hK _ ?_; clear hK K))))
                all_goals ((with_reducible refine wpQuiet_nil ?_); intro _ hw'; obtain ⟨nq, hw''⟩ := hw'; subst hw'')
                go_wp2_with fail
                -- STOP-g
                refine wp_region_quiet_lit (by kernel_rfl) (by kernel_rfl) ?_
                repeat (any_goals ((with_reducible refine wpQuiet_step (fun K hK => ?_)); go_simp; first | (with_reducible refine hK _ ?_; clear hK K) | ((with_reducible apply Exists.intro); (with_reducible refine ⟨fun _ => ?_, hK _ ?_⟩); (fail); clear hK K) | ((with_reducible refine (if_neg ?_).mpr (hK _ ?_)); (decide); clear hK K) | (split <;> (with_reducible refine hK _ ?_; clear hK K))))
                all_goals ((with_reducible refine wpQuiet_nil ?_); intro _ hw'; obtain ⟨nq, hw''⟩ := hw'; subst hw'')
                go_wp2_with fail
                -- STOP-h
                go_roundw
                case rel => exact ⟨i + 1, n2, m2, _, by omega, by go_num, by first | rfl | trivial, by first | rfl | trivial, hid HNI.out.symm, hid trivial, by first | rfl | exact drewN3 _ _ _ _ | exact drewN2 _ _ _⟩
                case measure => simp [intOf]; omega
              · have t3 : (u == q) = false := by simp [quq]
                replace HNI := hid (HNI.out.trans (if_neg quq))
                clear quq
                go_wp2_with fail
                refine wp_region_quiet_lit (by kernel_rfl) (by kernel_rfl) ?_
                repeat (any_goals ((with_reducible refine wpQuiet_step (fun K hK => ?_)); go_simp; first | (with_reducible refine hK _ ?_; clear hK K) | ((with_reducible apply Exists.intro); (with_reducible refine ⟨fun _ => ?_, hK _ ?_⟩); (fail); clear hK K) | ((with_reducible refine (if_neg ?_).mpr (hK _ ?_)); (decide); clear hK K) | (split <;> (with_reducible refine hK _ ?_; clear hK K))))
                all_goals ((with_reducible refine wpQuiet_nil ?_); intro _ hw'; obtain ⟨nq, hw''⟩ := hw'; subst hw'')
                go_wp2_with fail
                -- STOP-i
                go_roundw
                case rel => exact ⟨i + 1, n, m, _, by omega, by go_num, by first | rfl | trivial, by first | rfl | trivial, hid HNI.out.symm, hid trivial, by first | rfl | exact drewN2 _ _ _⟩
                case measure => simp [intOf]; omega
            · have t2 : ((i : Int) < (M1.length : Int)) = False := eq_false (by omega)
              have hie : i = M1.length := by omega
              have HGN2 := hid (show n = grpN s (its M1) q by rw [HGN.out, hie, List.take_length])
              have HBD := hid (show Below wk.heap.size wk (wk.drewN nw) from below_drewN (Below.refl _ _) nw)
              obtain ⟨wd, hwd⟩ : ∃ wd, wd = wk.drewN nw := ⟨_, rfl⟩
              rw [← hwd] at HBD ⊢
              have HXD := hid (HXS.out.step HBD.out)
              have HOD := hid (own_laterS HOS.out HBD.out)
              have hsd := HBD.out.size
              have hvd := ((bcell HBD.out).1 bK _ hbK).trans hvK
              have hbd : bK < wd.heap.size := Nat.lt_of_lt_of_le hbK hsd
              clear hwd HGN
              obtain ⟨cHXD, fHXD, sHXD, nHXD⟩ := HXD.out.all
              try simp only [cbox] at cHXD
              by_cases hn0 : n = 0
              · have t3 : (n != 0) = false := by simp [hn0]
                replace HSS4 := hid (show grpsL s (its M1) (K.take (k + 1)) = grpsL s (its M1) (K.take k) by rw [HSS4.out, HTL.out, if_pos (by rw [← HGN2.out]; exact hn0), List.append_nil])
                clear hn0
                go_wp2_with fail
                -- STOP-j
                go_roundw
                case rel => exact ⟨k + 1, S, by omega, by go_num, by omega, hid (by rw [HIS.out, HSS4.out]), hid HOD.out, hid (HNS.out.step HBD.out), hid (Below.step' HBS.out HBD.out)⟩
                case measure => simp [intOf]; omega
              · have t3 : (n != 0) = true := by simpa using hn0
                replace HSS4 := hid (show grpsL s (its M1) (K.take (k + 1)) = grpsL s (its M1) (K.take k) ++ [([q, n], 1)] by rw [HSS4.out, HTL.out, if_neg (by rw [← HGN2.out]; exact hn0), ← HGN2.out])
                clear hn0
                have HRN := hid (Row.new' wd #[.int .i64 q, .int .i64 n] 3 rfl rfl (Nat.lt_succ_self _))
                go_wp2_with (at_builtin; refine wpList_append_row elem_item rfl _ _ rfl w2.heap.size _ _ _ rfl ((HOD.out.alloc _).alloc _) (some ⟨wd.heap.size + 1, 0, none⟩) 1 1 (wd.heap.size + 2) [.slice (some ⟨wd.heap.size, 0, none⟩) 2 2, .int .i64 1] rfl rfl (by exact Row.new' (wd.alloc _) _ _ (by simp) rfl (by simp)) (two_oneC _ _ _ _) ?_ ?_ ?_ ?_; rotate_right; intro v7 w7 hown7 hg7 hif7; rotate_left; (simp only [maxLen]; omega); (omega); (simp; omega))
                -- STOP-k
                have HOW7 := hid hown7
                have HG7 := hid hg7
                have HIF := hid hif7
                clear hown7 hg7 hif7
                go_roundw
                case rel =>
                  have hba := alloc_below (alloc_below (Below.refl wd.heap.size wd) (.cells #[.int .i64 q, .int .i64 n] 3)) (.cells #[.slice (some ⟨wd.heap.size, 0, none⟩) 2 2, .int .i64 1] 67)
                  have hnw : some wd.heap.size ≠ (Value.slice A7 S.length c7).ownBlock := fun e => by
                    have := (HOD.out.lt _ e.symm).2
                    omega
                  have hsz7 := HG7.out.size
                  simp at hsz7
                  have hro : RowOwn (wd.alloc (.cells #[.int .i64 q, .int .i64 n] 3)) (some ⟨wd.heap.size, 0, none⟩) [q, n] 2 := blk_rowOwn2 (Blk.new wd #[.int .i64 q, .int .i64 n] 3)
                  have hro2 := ((hro.step (alloc_below (Below.refl _ _) (.cells #[.slice (some ⟨wd.heap.size, 0, none⟩) 2 2, .int .i64 1] 67))).grown_ne (Nat.le_refl _) HG7.out (fun b off z e => by injection e with e; injection e with e; rw [← e]; exact hnw)).more HG7.out.size
                  refine ⟨k + 1, S ++ [⟨[q, n], some ⟨wd.heap.size, 0, none⟩, 2, 1⟩], by omega, by go_num, by simp; omega, hid ?_, hid ?_, hid ?_, hid (((Below.step' HBS.out HBD.out).trans (hba.mono (Nat.le_trans hsk hsd))).grown HG7.out (by simp; omega) (fun g e => (HOD.out.lt g e).1))⟩
                  · rw [HSS4.out, ← HIS.out]
                    show (S ++ [(⟨[q, n], some ⟨wd.heap.size, 0, none⟩, 2, 1⟩ : IR)]).map IR.it = _
                    rw [List.map_append]; rfl
                  · rw [rcells_snoc, List.length_append]
                    exact HOW7.out
                  · refine RowsNew.snoc (((HNS.out.step HBD.out).step hba).grown HG7.out HIF.out) (x := (⟨[q, n], some ⟨wd.heap.size, 0, none⟩, 2, 1⟩ : IR)) hro2 (fun b off z e => by injection e with e; injection e with e; omega) (fun b off z e => ?_) (by simp)
                    injection e with e
                    injection e with e
                    subst e
                    refine ⟨?_, by omega⟩
                    rcases HIF.out with h | h
                    · rw [h]; exact hnw
                    · rw [h]; intro e2; injection e2 with e2; simp at e2; omega
                case measure => simp [intOf]; omega
        · have t1 : ((k : Int) < (K.length : Int)) = False := eq_false (by omega)
          have hke : k = K.length := by omega
          rw [hke, List.take_length] at HIS
          go_wp2_with fail
          -- STOP-l
          go_ret
          exact ⟨A7, c7, S, rfl, by rw [HIS.out]; exact HPM.out, ⟨Row.of_ownS HOS.out, HNS.out.rows⟩, Below.step' HBWK.out HBS.out⟩
end Go.Proofs.YtldlmkfigjicgaaGreatDoor
