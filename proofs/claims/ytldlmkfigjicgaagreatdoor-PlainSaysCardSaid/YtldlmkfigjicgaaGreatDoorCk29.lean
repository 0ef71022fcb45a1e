/- PnW, PnX, Pys -/
import Derived.Test.YtldlmkfigjicgaaGreatDoorCk25
import Derived.Test.YtldlmkfigjicgaaGreatDoorCk28
import Derived.Test.YtldlmkfigjicgaaGreatDoorCk11
/- plain.All, the walk. -/
namespace Go.Proofs.YtldlmkfigjicgaaGreatDoor
set_option linter.unusedVariables false
set_option linter.unusedSimpArgs false
open Go.ChangeShapes Go.WideShapes Go.ChangeAt Go.RowKit

set_option maxHeartbeats 1000000 in
set_option maxRecDepth 100000 in
theorem all_any (L : List SR) (M1 M2 : List IR) (A0 A1 A2 : Option Addr) (c0 c1 c2 : Nat) (w : World) (h0 : RowS w w.heap.size A0 L) (l0 : L.length ≤ 9223372036854775807) (h1 : RowI w w.heap.size A1 M1) (l1 : M1.length ≤ 9223372036854775807) (h2 : RowI w w.heap.size A2 M2) (l2 : M2.length ≤ 9223372036854775807) :
    Calls Tryz.prog 20 #[.slice A0 L.length c0, .slice A1 M1.length c1, .slice A2 M2.length c2] w (AllPost (allX (sts L) (its M1) (its M2)) (allE (sts L) (its M1) (its M2)) w) := by
  have HBS := hid (bases_any L M1 M2 A0 A1 A2 c0 c1 c2 w h0 l0 h1 l1 h2 l2)
  have HE := hid (show allE (sts L) (its M1) (its M2) = if basesE (sts L) (its M1) (its M2) ≠ 0 then basesE (sts L) (its M1) (its M2) else (setsG (its M1) (its M2) (sts L) []).1 from rfl)
  have HX := hid (show allX (sts L) (its M1) (its M2) = if allE (sts L) (its M1) (its M2) = 0 then (setsG (its M1) (its M2) (sts L) []).2 else [] from rfl)
  obtain ⟨E, hE⟩ : ∃ q, q = allE (sts L) (its M1) (its M2) := ⟨_, rfl⟩
  obtain ⟨X, hX⟩ : ∃ q, q = allX (sts L) (its M1) (its M2) := ⟨_, rfl⟩
  obtain ⟨EB, hEB⟩ : ∃ q, q = basesE (sts L) (its M1) (its M2) := ⟨_, rfl⟩
  have HEB := hid hEB
  rw [← hE] at HE HX
  rw [← hX] at HX
  rw [← hEB] at HE HBS
  rw [← hE, ← hX]
  have HR := hid h0
  have HR1 := hid h1
  have HR2 := hid h2
  clear hE hX hEB h0 h1 h2
  go_enter Tryz.func20, Tryz.ntmps20
  go_wp2_with fail
  refine HBS.out.mono ?_
  rintro e w1 ⟨rfl, hb1⟩
  have HB1 := hid hb1
  clear hb1 HBS
  by_cases q0 : EB = 0
  rotate_left
  · have t1 : (EB != 0) = true := by simpa using q0
    have HE1 := hid (show E = EB by rw [HE.out, if_pos q0])
    have HQ := hid q0
    clear q0
    go_wp2_with fail
    go_ret2
    exact allPost_nil (by rw [HX.out, if_neg (by rw [HE1.out]; exact HQ.out)]) HE1.out HB1.out
  subst q0
  replace HE : Hid (E = (setsG (its M1) (its M2) (sts L) []).1) := hid (by rw [HE.out, if_neg (by simp)])
  obtain ⟨z1, z2, z3, z4, z5⟩ := basesE_zero.1 HEB.out.symm
  obtain ⟨z6, z7, Wf, z8⟩ := queryE_zero.1 z1
  have hL8 : L.length ≤ 8 := by simpa [sts] using z7
  have hM1 := len_set z2
  have hM2 := len_set z3
  have H4 := hid (And.intro z4 z5)
  have HLA := hid (show (its M1).length ≤ 400 from set_len z2)
  have HLB := hid (show (its M2).length ≤ 400 from set_len z3)
  have HW0 := hid z8
  clear z1 z2 z3 z4 z5 z6 z7 z8 HEB
  go_wp2_with fail
  -- STOP-a
  go_loopw [9, 24] (fun s9 s24 wr => ∃ (i : Nat) (LL : List LR) (V : List Int), i ≤ L.length ∧ s24 = .int .i64 i ∧ LL.length = i ∧ Hid (widsL (sts (L.drop i)) V = some Wf ∧ ∀ v ∈ V, v ≤ 8) ∧ Hid (OkOut (setsOf LL) V) ∧ Hid (setsG (its M1) (its M2) (sts (L.drop i)) (setsOf LL) = setsG (its M1) (its M2) (sts L) []) ∧ Hid (wr.ownsRow w1.heap.size 22 1 s9 LL.length (pcells LL)) ∧ Hid (SetsNew wr w1.heap.size s9 LL) ∧ Hid (Below w1.heap.size w1 wr) ∧ Hid (LL.Pairwise Apart)) (fun _ s24 _ => L.length - (intOf s24).toNat)
  case atStart => exact ⟨0, [], [], by omega, rfl, rfl, hid ⟨by rw [List.drop_zero]; exact HW0.out, by simp⟩, hid okOut_nil, hid (by rw [List.drop_zero]; rfl), hid (World.ownsRow_nil _ _ _ _), hid (SetsNew.nil _ _ _), hid (Below.refl _ _), hid .nil⟩
  case round =>
    obtain ⟨i, LL, V, hi, rfl, hLL, HWV, HOK, HSG, HOWN, HNEW, HB, HAPT⟩ := hrel
    obtain ⟨A9, c9, rfl⟩ := own_formS HOWN.out
    have hsw := HB.out.size
    have HBW := hid (Below.step' HB1.out HB.out)
    have HLL := hid hLL
    have hLL1 : LL.length ≤ i := by omega
    clear hLL
    by_cases hlt : i < L.length
    · have HRS := hid (HR.out.step HBW.out)
      obtain ⟨b, off, rfl, hb, e0, e1, e2, e3, e4, e5, e6⟩ := HRS.out.1.sr hlt
      have HRX := hid (HRS.out.2 L[i] (List.getElem_mem hlt))
      have hdr : sts (L.drop i) = L[i].st :: sts (L.drop (i + 1)) := by rw [List.drop_eq_getElem_cons hlt]; rfl
      obtain ⟨hWV, hV8⟩ := HWV.out
      rw [hdr] at hWV
      obtain ⟨y1, y2⟩ := widsL_cons hWV
      have HWN := hid y2
      have HSG' := HSG.out
      rw [hdr, setsG] at HSG'
      have HSN := hid HSG'
      have HSO := hid (fun k => stepOk_of y1 HOK.out k)
      have HAL := hid (atL_len y1 HOK.out HLA.out HLB.out)
      have HAW := hid (atL_wide y1 HOK.out H4.out.1 H4.out.2)
      have HV8 := hid (show ∀ v ∈ V ++ [stW L[i].st V], v ≤ 8 from fun v hv => by
        rcases List.mem_append.1 hv with q | q
        · exact hV8 v q
        · rw [List.mem_singleton.1 q]; exact stW_le y1 hV8)
      have HKA := hid (show L[i].st.kind = 1 → L[i].st.a = 0 ∨ L[i].st.a = 1 from fun k => by
        rcases stW_ok y1 with ⟨-, q⟩ | ⟨-, -, -, -, hk⟩
        · exact q
        · omega)
      clear hdr hWV hV8 y1 y2 HSG' HSG HWV
      generalize L[i] = x at *
      generalize stW x.st V = v at *
      obtain ⟨ST, hST⟩ : ∃ q, q = x.st := ⟨_, rfl⟩
      obtain ⟨⟨sk, sa, sb, sc, so, sv, sl⟩, sA, sK⟩ := x
      simp only at e0 e1 e2 e3 e4 e5 e6 HRX HKA HSO hST
      rw [← hST] at HSN HSO HAL HAW
      have HST := hid hST
      clear hST
      have hneb : (b = wr.heap.size) = False := by simp; omega
      obtain ⟨wo, rfl⟩ : ∃ wx : World, wx = wr := ⟨_, rfl⟩
      obtain ⟨W2, hW2⟩ : ∃ W2 : World, W2 = wo.alloc (.cells #[.int .i64 sk, .int .i64 sa, .int .i64 sb, .int .i64 sc, .int .i64 so, .int .i64 sv, .slice sA sl.length sK] 89) := ⟨_, rfl⟩
      have HX2 := hid (show Blk W2 wo.heap.size #[.int .i64 sk, .int .i64 sa, .int .i64 sb, .int .i64 sc, .int .i64 so, .int .i64 sv, .slice sA sl.length sK] 89 by rw [hW2]; exact Blk.new _ _ _)
      have HBO := hid (show Below wo.heap.size wo W2 by rw [hW2]; exact alloc_below (Below.refl _ _) _)
      go_upto_block 2 with fail
      -- STOP-b
      rw [← hW2]
      clear hW2 e0 e1 e2 e3 e4 e5 e6
      obtain ⟨cHX2, fHX2, sHX2, nHX2⟩ := HX2.out.all
      try simp only [cbox] at cHX2
      go_cut [12] from 28 to 49 (fun s12 wx => ∃ A M k, s12 = .slice A M.length k ∧ Hid ((its M).Perm (atL (its M1) (its M2) ST (setsOf LL))) ∧ Hid (RowI wx wx.heap.size A M) ∧ Hid (Below W2.heap.size W2 wx))
      case first =>
        obtain ⟨cx, fx, sx, nx⟩ := HX2.out.all
        by_cases k1 : sk = 1
        · have t1 : (sk != 1) = false := by simp [k1]
          have HAT := hid (show atL (its M1) (its M2) ST (setsOf LL) = if sa = 0 then its M1 else its M2 by rw [HST.out, atL, if_pos k1])
          clear k1
          by_cases k2 : sa = 0
          · have t2 : (sa == 0) = true := by simp [k2]
            have HK2 := hid k2
            clear k2
            go_wp2_with fail
            go_meet
            case rel => exact ⟨A1, M1, c1, rfl, hid (by rw [HAT.out, if_pos HK2.out]), hid (HR1.out.step (Below.step' HBW.out HBO.out)), hid (Below.refl _ _)⟩
          · have t2 : (sa == 0) = false := by simp [k2]
            have HK2 := hid k2
            clear k2
            go_wp2_with fail
            go_meet
            case rel => exact ⟨A2, M2, c2, rfl, hid (by rw [HAT.out, if_neg HK2.out]), hid (HR2.out.step (Below.step' HBW.out HBO.out)), hid (Below.refl _ _)⟩
        · have t1 : (sk != 1) = true := by simpa using k1
          have hKN : ST.kind ≠ 1 := by rw [HST.out]; exact k1
          have HAT := hid (show atL (its M1) (its M2) ST (setsOf LL) = stL ST ((setsOf LL).getD sa.toNat []) ((setsOf LL).getD sb.toNat []) by rw [atL, if_neg hKN, HST.out])
          obtain ⟨a0, a1, b0, b1, hok⟩ := HSO.out k1
          rw [setsOf_len] at a1 b1
          obtain ⟨ja, hja⟩ : ∃ j : Nat, (j : Int) = sa := ⟨sa.toNat, by omega⟩
          obtain ⟨jb, hjb⟩ : ∃ j : Nat, (j : Int) = sb := ⟨sb.toNat, by omega⟩
          have hla : ja < LL.length := by omega
          have hlb : jb < LL.length := by omega
          have eA : sa.toNat = ja := by omega
          have eB : sb.toNat = jb := by omega
          rw [eA, eB, setsOf_getD hla, setsOf_getD hlb] at hok HAT
          obtain ⟨bo, oo, rfl, hbo, ga⟩ := (Row.of_ownS HOWN.out).lr hla
          obtain ⟨bo', oo', hA9, hbo', gb⟩ := (Row.of_ownS HOWN.out).lr hlb
          injection hA9 with hA9
          injection hA9 with hA9 hA9'
          subst hA9 hA9'
          have SA := HNEW.out.rows _ (List.getElem_mem hla)
          have SB := HNEW.out.rows _ (List.getElem_mem hlb)
          have LA : LL[ja].L.length ≤ 800 := by
            have := (HOK.out.2 ja (by rw [setsOf_len]; exact hla)).1
            rw [setsOf_getD hla] at this
            exact Nat.le_trans (len_set this) (by decide)
          have LB : LL[jb].L.length ≤ 800 := by
            have := (HOK.out.2 jb (by rw [setsOf_len]; exact hlb)).1
            rw [setsOf_getD hlb] at this
            exact Nat.le_trans (len_set this) (by decide)
          generalize LL[ja] = RA at *
          generalize LL[jb] = RB at *
          obtain ⟨MA, AA, kA⟩ := RA
          obtain ⟨MB, AB, kB⟩ := RB
          simp only at SA SB LA LB ga gb hok HAT
          have HSA := hid SA
          have HSB := hid SB
          have HOKS := hid hok
          have hga := ((bcell HBO.out).1 bo _ hbo).trans ga
          have hgb := ((bcell HBO.out).1 bo _ hbo).trans gb
          have HCS := hid (fun w3 (hb : Below W2.heap.size W2 w3) => step_any ⟨⟨sk, sa, sb, sc, so, sv, sl⟩, sA, sK⟩ MA MB AA AB kA kB w3 (HRX.out.1.step (Below.step' HBO.out hb)) (HSA.out.step (Below.step' HBO.out hb)) LA (HSB.out.step (Below.step' HBO.out hb)) LB (by have := HOKS.out; rw [HST.out] at this; exact this))
          have hbo2 : bo < W2.heap.size := Nat.lt_of_lt_of_le hbo HBO.out.size
          clear SA SB hok ga gb eA eB hKN k1 hbo'
          subst hja hjb
          go_upto_region 11 with fail
          refine region_tail 11 (by kernel_rfl) (by kernel_rfl) ?_
          simp only [List.take_succ_cons, List.take_zero, List.drop_succ_cons, List.drop_zero]
          repeat still_step
          refine wpStill_nil ?_
          go_wp2_with fail
          -- STOP-c
          refine (HCS.out _ (Below.drew (Below.refl _ _))).mono ?_
          rintro e w3 ⟨A12, k12, M12, rfl, hperm, hrow, hb3⟩
          have HPM := hid hperm
          have HRW := hid hrow
          have HB3 := hid hb3
          clear hperm hrow hb3 HCS
          go_wp2_with fail
          go_meet
          case rel => exact ⟨A12, M12, k12, rfl, hid (by rw [HAT.out, HST.out]; exact HPM.out), HRW, hid (Below.step' (Below.drew (Below.refl _ _)) HB3.out)⟩
      case rest =>
        obtain ⟨A12, M12, k12, rfl, HPM, HRW, HB3⟩ := hcut
        have HB4 := hid (Below.step' HBO.out HB3.out)
        have HO4 := hid (own_laterS HOWN.out HB4.out)
        have HN4 := hid (HNEW.out.step HB4.out)
        clear HX2
        obtain ⟨w4, rfl⟩ : ∃ wx : World, wx = wc := ⟨_, rfl⟩
        -- STOP-d
        have hlM : M12.length ≤ 160000 := by
          rw [← its_len M12, HPM.out.length_eq]
          exact HAL.out
        have hS : sumL (its M12) = sumL (atL (its M1) (its M2) ST (setsOf LL)) := sumL_perm HPM.out
        have HLEN := hid (show ∀ y ∈ M12, (y.row.length : Int) = v from fun y hy => HAW.out _ (HPM.out.mem_iff.1 (List.mem_map.2 ⟨y, hy, rfl⟩)))
        have hv8 : v ≤ 8 := HV8.out v (by simp)
        have HSM : Hid (∀ w5, Below w4.heap.size w4 w5 → ∀ A3, Row w5 w5.heap.size A3 [.slice A12 M12.length k12] → Calls Tryz.prog 36 #[.slice A3 1 1] w5 (ItsPost (sumL (its M12)) w5)) := hid (fun w5 hb A3 h => by
          have := sum_any [⟨M12, A12, k12⟩] A3 1 w5 (by simpa using h) (fun x hx => by
            simp only [List.mem_cons, List.not_mem_nil, or_false] at hx
            subst hx
            exact HRW.out.step hb) (by simp; omega) (by simp) (fun x hx => by
            simp only [lrs, List.flatMap_cons, List.flatMap_nil, List.append_nil] at hx
            have := HLEN.out x hx
            omega)
          simpa using this)
        rw [hS] at HSM
        generalize hSS : sumL (atL (its M1) (its M2) ST (setsOf LL)) = SS at *
        clear hS
        have HSS := hid hSS
        clear hSS
        go_wp2_with fail
        -- STOP-e
        refine (HSM.out _ (alloc_below (Below.refl _ _) _) _ (Row.new' _ _ _ rfl rfl (by simp))).mono ?_
        rintro e w5 ⟨A3, k3, M3, rfl, hits, hown, hnew, hb5⟩
        have hB5 : Below w4.heap.size w4 w5 := (by refine Below.step' ?_ hb5; (repeat' (first | (with_reducible exact Below.refl _ _) | (with_reducible assumption) | (with_reducible refine below_drewN ?_ _) | (with_reducible refine Below.drew ?_) | (with_reducible refine Below.alloc ?_ ?_ _) | (with_reducible refine Below.setCell ?_ ?_ _) | (refine Below.trans ?_ (Below.mono (by assumption) ?_)) | go_size)))
        have hs4 : wo.heap.size ≤ w4.heap.size := HB4.out.size
        have HIT := hid hits
        have HOW := hid (own_baseS hown (show w4.heap.size ≤ _ by simp))
        have HNW : Hid (RowsNew w5 w4.heap.size (.slice A3 M3.length k3) M3) := hid (fun x hx => by
          obtain ⟨q1, q2, q3, q4⟩ := hnew x hx
          exact ⟨q1, newAt_le q2 (by simp), q3, q4⟩)
        have hl3 : M3.length ≤ 160000 := by
          rw [← its_len M3, hits, ← HSS.out]
          exact Nat.le_trans (sumL_len _) HAL.out
        have hdn := done_any M3 A3 k3 w5 (Row.of_ownS hown) hnew.rows (by omega)
        rw [hits] at hdn
        have HDN := hid hdn
        have HB5 := hid hB5
        have HO5 := hid (own_laterS HO4.out hB5)
        have HN5 := hid (HN4.out.step hB5)
        obtain ⟨ED, hED⟩ : ∃ q, q = doneE SS := ⟨_, rfl⟩
        have HED := hid hED
        rw [← hED] at HDN HSN
        clear hits hown hnew hb5 hB5 hdn HSM hED
        go_wp2_with fail
        -- STOP-f
        refine HDN.out.mono ?_
        rintro e w6 ⟨rfl, hb6⟩
        have HB6 := hid hb6
        have HO6 := hid (own_laterS HO5.out hb6)
        have HN6 := hid (HN5.out.step hb6)
        have HOS6 := hid (own_laterS HOW.out hb6)
        have HNS6 := hid (HNW.out.step hb6)
        have HBA := hid (Below.step' (Below.step' HBW.out HB4.out) (Below.step' HB5.out hb6))
        have HBL := hid (Below.step' (Below.step' HB.out HB4.out) (Below.step' HB5.out hb6))
        have hs6 := HBL.out.size
        clear hb6 HDN HO5 HN5
        by_cases hz : ED = 0
        · have HZ := hid hz
          rw [if_pos hz]
          have hzb : (ED != 0) = false := by simp [hz]
          have HSN2 := hid (show setsG (its M1) (its M2) (sts (L.drop (i + 1))) (setsOf LL ++ [SS]) = setsG (its M1) (its M2) (sts L) [] by have := HSN.out; rwa [if_neg (by simp [hz])] at this)
          clear hz HSN
          have hone : ∀ u ∈ ([.slice A3 M3.length k3] : List Value), u.oneCell' = true := by
            intro u hu
            simp only [List.mem_cons, List.not_mem_nil, or_false] at hu
            subst hu; rfl
          go_wp2_with (at_builtin; refine wpList_append_row elem_sets rfl _ _ rfl w1.heap.size _ _ _ rfl (HO6.out.alloc _) (some ⟨w6.heap.size, 0, none⟩) 1 1 (w6.heap.size + 1) [.slice A3 M3.length k3] rfl rfl (Row.new' _ _ _ rfl rfl (Nat.lt_succ_self _)) hone ?_ ?_ ?_ ?_; rotate_right; intro v7 w7 hown7 hg7 hif7; rotate_left; (simp only [maxLen]; omega); (omega); (simp; omega))
          -- STOP-g
          have HOW7 := hid hown7
          have HG7 := hid hg7
          have HIF := hid hif7
          clear hown7 hg7 hif7 hone hs6 hs4
          go_roundw
          case rel =>
            have hNA := (HN6.out.step (alloc_below (Below.refl _ _) (.cells #[.slice A3 M3.length k3] 22))).grown HG7.out HIF.out
            have hsz6 := (Below.step' HB5.out HB6.out).size
            have hsz7 := HG7.out.size
            simp at hsz7
            refine ⟨i + 1, LL ++ [⟨M3, A3, k3⟩], V ++ [v], by omega, by go_num, by simp; exact HLL.out, hid ⟨HWN.out, HV8.out⟩, hid ?_, hid ?_, hid ?_, hid ?_, hid (Below.grown (alloc_below HBL.out _) HG7.out (by have := HBL.out.size; simp; omega) (fun g e => (HO6.out.lt g e).1)), hid (HN4.out.apart (Nat.le_refl _) HAPT.out (own_newS HOS6.out (Nat.le_refl _)) (fun z hz => (HNS6.out z hz).2.1))⟩
            · rw [setsOf_snoc]
              refine HOK.out.snoc ?_ fun y hy => ?_
              · rw [HIT.out, ← HSS.out]
                exact done_set (by rw [HSS.out, ← HED.out]; exact HZ.out)
              · simp only at hy
                rw [HIT.out, ← HSS.out] at hy
                obtain ⟨z, hz, e2⟩ := sumL_mem hy
                rw [← e2]
                exact HAW.out z hz
            · rw [setsOf_snoc, HIT.out]; exact HSN2.out
            · rw [pcells_snoc, List.length_append]
              simpa using HOW7.out
            · have hap := alloc_below (Below.refl w6.heap.size w6) (.cells #[.slice A3 M3.length k3] 22)
              have hOA := own_laterS HOS6.out hap
              have hNB := HNS6.out.step hap
              have hb4w := HBL.out.size
              have hold : ∀ g, w4.heap.size ≤ g → g < w6.heap.size → some g ≠ _ := fun g q1 q2 e2 => by
                have := (HO4.out.lt g e2.symm).2
                omega
              have hne : ∀ g, w4.heap.size ≤ g → g < w6.heap.size → some g ≠ v7.ownBlock := fun g q1 q2 => by
                rcases HIF.out with q | q
                · rw [q]; exact hold g q1 q2
                · rw [q]; intro e2; injection e2 with e2; simp at e2; omega
              have hsA : w1.heap.size ≤ w4.heap.size := (Below.step' HB.out HB4.out).size
              refine SetsNew.snoc hNA (x := (⟨M3, A3, k3⟩ : LR)) (own_baseS (own_ne_grown hOA HG7.out fun g e => ?_) hsA) (fun y hy => ?_) (fun g e => ?_) (fun y hy b off q e => ?_)
              · have := HOS6.out.lt g e
                exact hold g this.1 this.2
              · have hy2 := (hNB.grownNe HG7.out (fun z hz b off q e => hold b ((HNS6.out z hz).2.1 b off q e) ((HNS6.out z hz).2.2.1 b off q e).2)) y hy
                exact ⟨hy2.1, newAt_le hy2.2.1 hsA, hy2.2.2⟩
              · have := HOS6.out.lt g e
                exact hne g this.1 this.2
              · exact hne b ((HNS6.out y hy).2.1 b off q e) ((HNS6.out y hy).2.2.1 b off q e).2
          case measure => simp [intOf]; omega
        · have HZ := hid hz
          rw [if_neg hz]
          have hzb : (ED != 0) = true := by simpa using hz
          have HSN2 := hid (show setsG (its M1) (its M2) (sts L) [] = (ED, []) by have := HSN.out; rw [if_pos hz] at this; exact this.symm)
          clear hz HSN
          go_wp2_with fail
          -- STOP-h
          go_ret2
          refine allPost_nil ?_ ?_ HBA.out
          · rw [HX.out, HE.out, HSN2.out, if_neg HZ.out]
          · rw [HE.out, HSN2.out]
    · have hik : i = L.length := by omega
      subst hik
      have HS0 := hid (show setsG (its M1) (its M2) (sts L) [] = (0, setsOf LL) by have := HSG.out; rw [List.drop_length] at this; exact this.symm)
      go_wp2_with fail
      -- STOP-i
      go_ret2
      have hE0 : E = 0 := by rw [HE.out, HS0.out]
      refine allPost_mk hE0 ?_ (own_baseS HOWN.out HB1.out.size) (fun x hx => ?_) HBW.out HAPT.out (by have := HLL.out; omega)
      · rw [HX.out, if_pos hE0, HS0.out]
      · obtain ⟨q1, q2, q3, q4⟩ := HNEW.out x hx
        exact ⟨own_baseS q1 HB1.out.size, fun y hy => ⟨(q2 y hy).1, newAt_le (q2 y hy).2.1 HB1.out.size, (q2 y hy).2.2⟩, q3, q4⟩
end Go.Proofs.YtldlmkfigjicgaaGreatDoor
/- plain.Eval. -/
namespace Go.Proofs.YtldlmkfigjicgaaGreatDoor
set_option linter.unusedVariables false
set_option linter.unusedSimpArgs false
open Go.ChangeShapes Go.WideShapes Go.ChangeAt Go.RowKit

theorem itsErr_mk {S : List It} {x y : Int} {w w' : World} {A : Option Addr} {k : Nat} {M : List IR} (hx : y = x) (h1 : its M = S) (h2 : w'.ownsRow w.heap.size 67 2 (.slice A M.length k) M.length (rcells M)) (h3 : RowsNew w' w.heap.size (.slice A M.length k) M) (h4 : Below w.heap.size w w') : ItsErr S y w (.returned (.tuple #[.slice A M.length k, .int .i64 x])) w' := by
  subst hx; exact ⟨A, k, M, rfl, h1, h2, h3, h4⟩

set_option maxHeartbeats 1000000 in
set_option maxRecDepth 100000 in
theorem eval_any (L : List SR) (M1 M2 : List IR) (A0 A1 A2 : Option Addr) (c0 c1 c2 : Nat) (w : World) (h0 : RowS w w.heap.size A0 L) (l0 : L.length ≤ 9223372036854775807) (h1 : RowI w w.heap.size A1 M1) (l1 : M1.length ≤ 9223372036854775807) (h2 : RowI w w.heap.size A2 M2) (l2 : M2.length ≤ 9223372036854775807) :
    Calls Tryz.prog 22 #[.slice A0 L.length c0, .slice A1 M1.length c1, .slice A2 M2.length c2] w (ItsErr (evalX (sts L) (its M1) (its M2)) (allE (sts L) (its M1) (its M2)) w) := by
  have HAL := hid (all_any L M1 M2 A0 A1 A2 c0 c1 c2 w h0 l0 h1 l1 h2 l2)
  have HOK := hid (fun h : allE (sts L) (its M1) (its M2) = 0 => all_ok h)
  have HX := hid (show evalX (sts L) (its M1) (its M2) = (allX (sts L) (its M1) (its M2)).getLastD [] from rfl)
  have HN := hid (show allE (sts L) (its M1) (its M2) ≠ 0 → allX (sts L) (its M1) (its M2) = [] from fun h => by unfold allX; rw [if_neg h])
  obtain ⟨E, hE⟩ : ∃ q, q = allE (sts L) (its M1) (its M2) := ⟨_, rfl⟩
  obtain ⟨X, hX⟩ : ∃ q, q = allX (sts L) (its M1) (its M2) := ⟨_, rfl⟩
  obtain ⟨Y, hY⟩ : ∃ q, q = evalX (sts L) (its M1) (its M2) := ⟨_, rfl⟩
  rw [← hX, ← hE] at HAL HN
  rw [← hX, ← hE] at HOK
  rw [← hX, ← hY] at HX
  rw [← hY, ← hE]
  clear hX hE hY h0 h1 h2
  go_enter Tryz.func22, Tryz.ntmps22
  go_wp2_with fail
  refine HAL.out.mono ?_
  rintro e w1 ⟨A9, c9, LL, rfl, hS, hown, hnew, hb1, -, -⟩
  have HS := hid hS
  have HOW := hid hown
  have HNW := hid hnew
  have HB := hid hb1
  clear hS hown hnew hb1 HAL
  by_cases q0 : E = 0
  rotate_left
  · have t1 : (E != 0) = true := by simpa using q0
    have HY0 := hid (show Y = [] by rw [HX.out, HN.out q0]; rfl)
    clear q0
    go_wp2_with fail
    go_ret2
    exact itsErr_nil' HY0.out rfl HB.out
  · subst q0
    obtain ⟨Wf, -, -, o3, o4⟩ := HOK.out rfl
    have hlen : LL.length = X.length := by rw [← setsOf_len, HS.out]
    obtain ⟨j, hj⟩ : ∃ j : Nat, j + 1 = LL.length := ⟨LL.length - 1, by omega⟩
    have hjl : j < LL.length := by omega
    obtain ⟨bo, oo, rfl, hbo, ga⟩ := (Row.of_ownS HOW.out).lr hjl
    have HR := hid (HNW.out _ (List.getElem_mem hjl))
    have HY1 := hid (show its LL[j].L = Y by
      rw [HX.out, ← HS.out, ← getD_last _ _ (by rw [setsOf_len]; omega), setsOf_len, show LL.length - 1 = j by omega, setsOf_getD hjl])
    generalize LL[j] = R at *
    obtain ⟨M, A, k⟩ := R
    simp only at ga HR HY1
    have hw : IntKind.i64.wrap ((LL.length : Int) - 1) = (j : Int) := by
      have : (sts L).length = L.length := List.length_map ..
      rw [IntWalk.i64_in _ (by omega)]; omega
    have hjl' : (j : Int) < (LL.length : Int) := by omega
    clear hlen o3 o4 hj
    go_wp2_with fail
    -- STOP-a
    go_ret2
    exact itsErr_mk rfl HY1.out HR.out.1 HR.out.2.1 HB.out
end Go.Proofs.YtldlmkfigjicgaaGreatDoor
/- viewlaw.PlainSays. -/
namespace Go.Proofs.YtldlmkfigjicgaaGreatDoor
set_option linter.unusedVariables false
set_option linter.unusedSimpArgs false
open Go.ChangeShapes Go.WideShapes Go.ChangeAt Go.RowKit

theorem enters_sameSet : ∀ args w, (callFunc 19 args).run Tryz.prog w = .ok (.enter 19 args) w := enters_of Tryz.func19 (by kernel_rfl) rfl
/-- A row of sets, wherever they lie. -/
def RowP (w : World) (A : Option Addr) (LL : List LR) : Prop := Row w w.heap.size A (pcells LL) ∧ ∀ x ∈ LL, RowI w w.heap.size x.A x.L ∧ x.L.length ≤ 9223372036854775807
theorem RowP.step {w w' : World} {A : Option Addr} {LL : List LR} (h : RowP w A LL) (hb : Below w.heap.size w w') : RowP w' A LL := ⟨h.1.step hb, fun x hx => ⟨(h.2 x hx).1.step hb, (h.2 x hx).2⟩⟩
theorem rowP_of {w : World} {lo : Nat} {A : Option Addr} {k : Nat} {LL : List LR} (h1 : w.ownsRow lo 22 1 (.slice A LL.length k) LL.length (pcells LL)) (h2 : SetsNew w lo (.slice A LL.length k) LL) : RowP w A LL :=
  ⟨Row.of_ownS h1, fun x hx => ⟨h2.rows x hx, own_len1 (h2 x hx).1⟩⟩

set_option maxHeartbeats 1000000 in
set_option maxRecDepth 100000 in
theorem equalSets_any (L1 L2 : List LR) (A1 A2 : Option Addr) (c1 c2 : Nat) (w : World) (h1 : RowP w A1 L1) (h2 : RowP w A2 L2) (hl : L1.length ≤ 30) (he : setsOf L1 = setsOf L2) :
    Calls Tryz.prog 23 #[.slice A1 L1.length c1, .slice A2 L2.length c2, .func (.func 19) #[] #[]] w fun e w' => e = .returned (.bool true) ∧ Below w.heap.size w w' := by
  have HR1 := hid h1
  have HR2 := hid h2
  have eg := enters_sameSet
  have hlen : L1.length = L2.length := by rw [← setsOf_len L1, ← setsOf_len L2, he]
  have HE := hid (fun k (h : k < L1.length) (h' : k < L2.length) => show its L1[k].L = its L2[k].L by
    rw [← setsOf_getD h, ← setsOf_getD h', he])
  clear h1 h2 he
  have hne : ((L1.length : Int) != (L2.length : Int)) = false := by simp [hlen]
  have HL := hid hlen
  clear hlen
  go_enter Tryz.func23, Tryz.ntmps23
  go_wp2_with fail
  -- STOP-a
  go_loopw [17] (fun s17 wr => ∃ k : Nat, k ≤ L1.length ∧ s17 = .int .i64 k ∧ Hid (Below w.heap.size w wr)) (fun s17 _ => L1.length - (intOf s17).toNat)
  case atStart => exact ⟨0, by omega, rfl, hid (Below.refl _ _)⟩
  case round =>
    obtain ⟨k, hk, rfl, HB⟩ := hrel
    by_cases hlt : k < L1.length
    · have hlt' : k < L2.length := by have := HL.out; omega
      have HS1 := hid (HR1.out.step HB.out)
      have HS2 := hid (HR2.out.step HB.out)
      obtain ⟨b, off, rfl, hb, g⟩ := HS1.out.1.lr hlt
      obtain ⟨b', off', rfl, hb', g'⟩ := HS2.out.1.lr hlt'
      have q1 := HS1.out.2 _ (List.getElem_mem hlt)
      have q2 := HS2.out.2 _ (List.getElem_mem hlt')
      have hee := HE.out k hlt hlt'
      generalize L1[k] = x at *
      generalize L2[k] = y at *
      have HCL := hid (fun w1 (hb : Below wr.heap.size wr w1) => show Calls Tryz.prog 19 #[.slice x.A x.L.length x.k, .slice y.A y.L.length y.k] w1 fun e w' => e = .returned (.bool true) ∧ Below w1.heap.size w1 w' from by
        have := sameSet_any x.L y.L x.A y.A x.k y.k w1 (q1.1.step hb) q1.2 (q2.1.step hb) q2.2
        rwa [decide_eq_true hee] at this)
      clear q1 q2 hee
      obtain ⟨xL, xA, xk⟩ := x
      obtain ⟨yL, yA, yk⟩ := y
      simp only at g g' HCL
      have hnb : (b' = wr.heap.size) = False := by simp; omega
      go_wp2_with fail
      -- STOP-b
      refine (HCL.out _ (by (repeat' (first | (with_reducible exact Below.refl _ _) | (with_reducible assumption) | (with_reducible refine below_drewN ?_ _) | (with_reducible refine Below.drew ?_) | (with_reducible refine Below.alloc ?_ ?_ _) | (with_reducible refine Below.setCell ?_ ?_ _) | (refine Below.trans ?_ (Below.mono (by assumption) ?_)) | go_size)))).mono ?_
      rintro e w1 ⟨rfl, hb1⟩
      have hB1 : Below wr.heap.size wr w1 := (by refine Below.step' ?_ hb1; (repeat' (first | (with_reducible exact Below.refl _ _) | (with_reducible assumption) | (with_reducible refine below_drewN ?_ _) | (with_reducible refine Below.drew ?_) | (with_reducible refine Below.alloc ?_ ?_ _) | (with_reducible refine Below.setCell ?_ ?_ _) | (refine Below.trans ?_ (Below.mono (by assumption) ?_)) | go_size)))
      have HB1 := hid hB1
      clear hb1 hB1
      go_wp2
      go_roundw
      case rel => exact ⟨k + 1, by omega, by go_num, hid (Below.step' HB.out HB1.out)⟩
      case measure => simp [intOf]; omega
    · go_wp2
      go_ret
      exact ⟨rfl, HB.out⟩

set_option maxHeartbeats 4000000 in
set_option maxRecDepth 100000 in
theorem plainSays_any (L : List SR) (M1 M2 : List IR) (A0 A1 A2 : Option Addr) (c0 c1 c2 : Nat) (w : World) (h0 : RowS w w.heap.size A0 L) (l0 : L.length ≤ 9223372036854775807) (h1 : RowI w w.heap.size A1 M1) (l1 : M1.length ≤ 9223372036854775807) (h2 : RowI w w.heap.size A2 M2) (l2 : M2.length ≤ 9223372036854775807) (ht : Pow w) :
    Calls Tryz.prog 4 #[.slice A0 L.length c0, .slice A1 M1.length c1, .slice A2 M2.length c2] w fun e w' => e = .returned (.bool true) ∧ Below w.heap.size w w' := by
  have H1 := hid (fun w1 (hb : Below w.heap.size w w1) => all_any L M1 M2 A0 A1 A2 c0 c1 c2 w1 (h0.step hb) l0 (h1.step hb) l1 (h2.step hb) l2)
  have H2 := hid (fun w1 (hb : Below w.heap.size w w1) => Rsets_any L M1 M2 A0 A1 A2 c0 c1 c2 w1 (h0.step hb) l0 (h1.step hb) l1 (h2.step hb) l2 (Pow.step ht hb))
  have H3 := hid (fun w1 (hb : Below w.heap.size w w1) => eval_any L M1 M2 A0 A1 A2 c0 c1 c2 w1 (h0.step hb) l0 (h1.step hb) l1 (h2.step hb) l2)
  have HOK := hid (fun h : allE (sts L) (its M1) (its M2) = 0 => all_ok h)
  have HX := hid (show evalX (sts L) (its M1) (its M2) = (allX (sts L) (its M1) (its M2)).getLastD [] from rfl)
  have HN := hid (show allE (sts L) (its M1) (its M2) ≠ 0 → allX (sts L) (its M1) (its M2) = [] from fun h => by unfold allX; rw [if_neg h])
  obtain ⟨E, hE⟩ : ∃ q, q = allE (sts L) (its M1) (its M2) := ⟨_, rfl⟩
  obtain ⟨X, hX⟩ : ∃ q, q = allX (sts L) (its M1) (its M2) := ⟨_, rfl⟩
  obtain ⟨Y, hY⟩ : ∃ q, q = evalX (sts L) (its M1) (its M2) := ⟨_, rfl⟩
  rw [← hX, ← hE] at H1 H2 HN
  rw [← hX, ← hE] at HOK
  rw [← hX, ← hY] at HX
  rw [← hY, ← hE] at H3
  clear hX hE hY h0 h1 h2 ht
  go_enter Tryz.func4, Tryz.ntmps4
  go_wp2_with fail
  refine (H1.out w (Below.refl _ _)).mono ?_
  rintro e w1 ⟨B1, k1, P1, rfl, hS1, ho1, hn1, hb1, -, hl30⟩
  have HP1 := hid (rowP_of ho1 hn1)
  have HB1 := hid hb1
  have HS1 := hid hS1
  clear hS1 ho1 hn1 hb1 H1
  go_wp2_with fail
  -- STOP-a
  refine (H2.out w1 HB1.out).mono ?_
  rintro e w2 ⟨B2, k2, P2, rfl, hS2, ho2, hn2, hb2, -, -⟩
  have HP2 := hid (rowP_of ho2 hn2)
  replace HP1 := hid (HP1.out.step hb2)
  have HB2 := hid (Below.step' HB1.out hb2)
  have HS2 := hid hS2
  clear hS2 ho2 hn2 hb2 H2 HB1
  go_wp2_with fail
  -- STOP-b
  refine (H3.out w2 HB2.out).mono ?_
  rintro e w3 ⟨B3, k3, M3, rfl, hi3, ho3, hn3, hb3⟩
  have HR3 := hid (show RowI w3 w3.heap.size B3 M3 from ⟨Row.of_ownS ho3, hn3.rows⟩)
  have hl3 := own_len1 ho3
  replace HP1 := hid (HP1.out.step hb3)
  replace HP2 := hid (HP2.out.step hb3)
  have HB3 := hid (Below.step' HB2.out hb3)
  have HI3 := hid hi3
  have HEQ := hid (fun w4 (hb : Below w3.heap.size w3 w4) => equalSets_any P1 P2 B1 B2 k1 k2 w4 (HP1.out.step hb) (HP2.out.step hb) hl30 (by rw [HS1.out, HS2.out]))
  clear hi3 ho3 hn3 hb3 H3 HB2
  by_cases q0 : E = 0
  · subst q0
    obtain ⟨Wf, -, -, o3, o4⟩ := HOK.out rfl
    have hlen : P2.length = X.length := by rw [← setsOf_len, HS2.out]
    obtain ⟨j, hj⟩ : ∃ j : Nat, j + 1 = P2.length := ⟨P2.length - 1, by omega⟩
    have hjl : j < P2.length := by omega
    obtain ⟨bo, oo, rfl, hbo, ga⟩ := HP2.out.1.lr hjl
    have HRJ := hid (HP2.out.2 _ (List.getElem_mem hjl))
    have HY1 := hid (show its P2[j].L = Y by
      rw [HX.out, ← HS2.out, ← getD_last _ _ (by rw [setsOf_len]; omega), setsOf_len, show P2.length - 1 = j by omega, setsOf_getD hjl])
    generalize P2[j] = R at *
    obtain ⟨M, A, k⟩ := R
    simp only at ga HRJ HY1
    have hw : IntKind.i64.wrap ((P2.length : Int) - 1) = (j : Int) := by
      have : (sts L).length = L.length := List.length_map ..
      rw [IntWalk.i64_in _ (by omega)]; omega
    have hjl' : (j : Int) < (P2.length : Int) := by omega
    have HSM := hid (fun w4 (hb : Below w3.heap.size w3 w4) => show Calls Tryz.prog 19 #[.slice B3 M3.length k3, .slice A M.length k] w4 fun e w' => e = .returned (.bool true) ∧ Below w4.heap.size w4 w' from by
      have := sameSet_any M3 M B3 A k3 k w4 (HR3.out.step hb) hl3 (HRJ.out.1.step hb) HRJ.out.2
      rwa [decide_eq_true (by rw [HI3.out, HY1.out])] at this)
    clear hlen o3 o4 hj
    go_wp2_with fail
    -- STOP-c
    refine (HEQ.out _ (by (repeat' (first | (with_reducible exact Below.refl _ _) | (with_reducible assumption) | (with_reducible refine below_drewN ?_ _) | (with_reducible refine Below.drew ?_) | (with_reducible refine Below.alloc ?_ ?_ _) | (with_reducible refine Below.setCell ?_ ?_ _) | (refine Below.trans ?_ (Below.mono (by assumption) ?_)) | go_size)))).mono ?_
    rintro e w4 ⟨rfl, hb4⟩
    have hB4 : Below w3.heap.size w3 w4 := (by refine Below.step' ?_ hb4; (repeat' (first | (with_reducible exact Below.refl _ _) | (with_reducible assumption) | (with_reducible refine below_drewN ?_ _) | (with_reducible refine Below.drew ?_) | (with_reducible refine Below.alloc ?_ ?_ _) | (with_reducible refine Below.setCell ?_ ?_ _) | (refine Below.trans ?_ (Below.mono (by assumption) ?_)) | go_size)))
    have HB4 := hid hB4
    clear hb4 hB4
    go_wp2_with fail
    -- STOP-d
    refine (HSM.out w4 HB4.out).mono ?_
    rintro e w5 ⟨rfl, hb5⟩
    have HB5 := hid (Below.step' HB3.out (Below.step' HB4.out hb5))
    clear hb5
    go_wp2_with fail
    go_ret
    exact ⟨rfl, HB5.out⟩
  · have t1 : (E == 0) = false := by simpa using q0
    have hM3 : its M3 = [] := by rw [HI3.out, HX.out, HN.out q0]; rfl
    have HSM := hid (fun w4 (hb : Below w3.heap.size w3 w4) => show Calls Tryz.prog 19 #[.slice B3 M3.length k3, .slice none 0 0] w4 fun e w' => e = .returned (.bool true) ∧ Below w4.heap.size w4 w' from by
      have := sameSet_any M3 [] B3 none k3 0 w4 (HR3.out.step hb) hl3 RowI.nil (by simp)
      rwa [decide_eq_true (by rw [hM3]; rfl)] at this)
    clear q0 hM3
    go_wp2_with fail
    refine (HEQ.out _ (by (repeat' (first | (with_reducible exact Below.refl _ _) | (with_reducible assumption) | (with_reducible refine below_drewN ?_ _) | (with_reducible refine Below.drew ?_) | (with_reducible refine Below.alloc ?_ ?_ _) | (with_reducible refine Below.setCell ?_ ?_ _) | (refine Below.trans ?_ (Below.mono (by assumption) ?_)) | go_size)))).mono ?_
    rintro e w4 ⟨rfl, hb4⟩
    have hB4 : Below w3.heap.size w3 w4 := (by refine Below.step' ?_ hb4; (repeat' (first | (with_reducible exact Below.refl _ _) | (with_reducible assumption) | (with_reducible refine below_drewN ?_ _) | (with_reducible refine Below.drew ?_) | (with_reducible refine Below.alloc ?_ ?_ _) | (with_reducible refine Below.setCell ?_ ?_ _) | (refine Below.trans ?_ (Below.mono (by assumption) ?_)) | go_size)))
    have HB4 := hid hB4
    clear hb4 hB4
    go_wp2_with fail
    -- STOP-e
    refine (HSM.out w4 HB4.out).mono ?_
    rintro e w5 ⟨rfl, hb5⟩
    have HB5 := hid (Below.step' HB3.out (Below.step' HB4.out hb5))
    clear hb5
    go_wp2_with fail
    go_ret
    exact ⟨rfl, HB5.out⟩
end Go.Proofs.YtldlmkfigjicgaaGreatDoor
