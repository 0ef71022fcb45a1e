/- IcP -/
import Derived.Test.YtldlmkfigjicgaaDoorCk18
import Derived.Test.YtldlmkfigjicgaaDoorCk22
import Derived.Test.YtldlmkfigjicgaaDoorCk21
import Derived.Test.YtldlmkfigjicgaaDoorCk19
/- viewkeep.IncPlain. -/
namespace Go.Proofs.YtldlmkfigjicgaaDoor
set_option linter.unusedVariables false
set_option linter.unusedSimpArgs false
open Go.ChangeShapes Go.WideShapes Go.ChangeAt Go.RowKit

theorem totOk_small {M : List IR} {l : List It} (e : its M = l) (h : l.length ≤ 1200 ∧ ∀ x ∈ l, x.1.length ≤ 8 ∧ ∀ n ∈ x.1, -1073741824 ≤ n ∧ n ≤ 1073741824) : TotOk M := by
  subst e
  have hx : ∀ x ∈ M, x.row.length ≤ 8 ∧ ∀ n ∈ x.row, -1073741824 ≤ n ∧ n ≤ 1073741824 := fun x hx => h.2 x.it (List.mem_map.2 ⟨x, hx, rfl⟩)
  refine ⟨by have := h.1; rw [its_len] at this; omega, fun x q => by have := (hx x q).1; omega, fun x q n hn => by have := (hx x q).2 n hn; omega⟩
theorem set_len4 {M : List IR} {l : List It} (e : its M = l) (h : setI l = 0) : M.length ≤ 400 := by
  have := (setI_zero.1 h).1
  rw [← e, its_len] at this
  exact this
set_option maxHeartbeats 4000000 in
set_option maxRecDepth 100000 in
theorem incPlain_any (L : List SR) (A : Option Addr) (k : Nat) (l : List FR) (FA : Option Addr) (fk : Nat) (w : World) (hr : RowS w w.heap.size A L) (hl : L.length ≤ 9223372036854775807)
    (hf : Row w w.heap.size FA (l.flatMap FR.cells)) (hfs : ∀ z ∈ l, z.at_ w) (hfl : l.length ≤ 9223372036854775807) (ht : Pow w) :
    Calls Tryd.prog 4 #[.slice A L.length k, .slice FA l.length fk] w fun e w' => e = .returned (.bool true) ∧ Below w.heap.size w w' := by
  have HK := hid kept_any
  have HN := hid (fun (w1 : World) (hb : Below w.heap.size w w1) => inew_any L A k w1 (hr.step hb) hl)
  have HR := hid hr
  have HF := hid hf
  have HFS := hid hfs
  have HT := hid ht
  clear hr hf hfs ht
  go_enter Tryd.func4, Tryd.ntmps4
  go_wp2_with fail
  refine (HK.out w).mono ?_
  rintro e w1 ⟨rfl, hb1⟩
  have HB1 := hid hb1
  clear hb1 HK
  go_wp2_with fail
  -- STOP-a
  refine (HN.out w1 HB1.out).mono ?_
  by_cases hq : queryE (sts L) = 0
  rotate_left
  · rintro e w2 (⟨-, rfl, hb2⟩ | ⟨h, -⟩)
    rotate_left
    · exact absurd h hq
    have HB2 := hid (Below.step' HB1.out hb2)
    obtain ⟨E, hE⟩ : ∃ E, E = queryE (sts L) := ⟨_, rfl⟩
    rw [← hE] at hq ⊢
    have t1 : (E != 0) = true := by simpa using hq
    have t2 : (E == 0) = false := by simpa using hq
    clear hE hq hb2 HN
    go_wp2_with fail
    -- STOP-b
    go_ret
    exact ⟨by rfl, HB2.out⟩
  rintro e w2 (⟨h, -⟩ | ⟨-, vp, v, rfl, hv, hsq, h0, h1, hNl, hNn, hvp, hb2, ho⟩)
  · exact absurd hq h
  have HB2 := hid (Below.step' HB1.out hb2)
  by_cases hlong : 30 < l.length
  · have t1 : decide ((30 : Int) < (l.length : Int)) = true := decide_eq_true (by omega)
    have t2 : ((30 : Int) < (l.length : Int)) = True := eq_true (by omega)
    clear hlong hv hsq h0 h1 hNl hNn ho hb2 HN
    go_wp2_with fail
    -- STOP-c
    go_ret
    exact ⟨by rfl, HB2.out⟩
  have t1 : decide ((30 : Int) < (l.length : Int)) = false := decide_eq_false (by omega)
  have t2 : ((30 : Int) < (l.length : Int)) = False := eq_false (by omega)
  have HVS := hid (vs_new hsq h0 h1 hNl hNn)
  have HOK := hid (VS.start_ok hq)
  have HV := hid hv
  have HVO := hid ho
  have hwv : w.heap.size ≤ vp := Nat.le_trans HB1.out.size hvp
  have hvl : vp < w2.heap.size := hv.box.lt
  have hl30 : l.length ≤ 30 := by omega
  have hz12 : w1.heap.size ≤ w2.heap.size := hb2.size
  clear hlong hv hsq h0 h1 hNl hNn ho hb2 HN hq
  go_wp2_with fail
  -- STOP-d
  go_loopw [7, 8, 9, 41] (fun s7 s8 s9 s41 wr => ∃ (j : Nat) (u : VR) (X Y Z : LR), j ≤ l.length ∧ s41 = .int .i64 j ∧ s7 = .slice X.A X.L.length X.k ∧ s8 = .slice Y.A Y.L.length Y.k ∧ s9 = .slice Z.A Z.L.length Z.k ∧
    Hid (u.at_ wr vp) ∧ Hid u.vs.ok ∧ Hid (u.off (fun b => b = vp ∨ b < w1.heap.size)) ∧ Hid (u.vs.q = sts L) ∧ Hid (its X.L = u.vs.T0) ∧ Hid (its Y.L = u.vs.T1) ∧ Hid (its Z.L = u.vs.told) ∧
    Hid (SetIn wr w2.heap.size X.A X.k X.L) ∧ Hid (SetIn wr w2.heap.size Y.A Y.k Y.L) ∧ Hid (SetIn wr w2.heap.size Z.A Z.k Z.L) ∧ w2.heap.size ≤ wr.heap.size ∧ Hid (Below w.heap.size w wr)) (fun _ _ _ s41 _ => l.length - (intOf s41).toNat)
  case atStart =>
    refine ⟨0, v, ⟨[], none, 0⟩, ⟨[], none, 0⟩, ⟨[], none, 0⟩, by omega, rfl, rfl, rfl, rfl, HV, hid (by rw [HVS.out]; exact HOK.out), HVO, hid (by rw [HVS.out]; rfl), hid (by rw [HVS.out]; rfl), hid (by rw [HVS.out]; rfl), hid ?_, hid (SetIn.nil _ _), hid (SetIn.nil _ _), hid (SetIn.nil _ _), Nat.le_refl _, HB2⟩
    rw [HVS.out]
    show [] = (List.replicate (sts L).length []).getLastD []
    cases (sts L).length with
    | zero => rfl
    | succ n => rw [List.replicate_succ', List.getLastD_concat]
  case round =>
    obtain ⟨j, u, ⟨XL, XA, Xk⟩, ⟨YL, YA, Yk⟩, ⟨ZL, ZA, Zk⟩, hj, rfl, rfl, rfl, rfl, HU, HUOK, HUO, HUQ, HX, HY, HZ, SX, SY, SZ, hz2, HB⟩ := hrel
    obtain ⟨wo, rfl⟩ : ∃ wx : World, wx = wr := ⟨_, rfl⟩
    by_cases hlt : j < l.length
    · have t3 : ((j : Int) < (l.length : Int)) = True := eq_true (by omega)
      obtain ⟨b, off, rfl, hb, c0, c1⟩ := (HF.out.step HB.out).fr hlt
      have HFJ := hid ((HFS.out _ (List.getElem_mem hlt)).step HB.out)
      generalize l[j] = fj at *
      obtain ⟨⟨PL, PA, Pk⟩, ⟨QL, QA, Qk⟩⟩ := fj
      simp only at c0 c1 hz2
      obtain ⟨W, hW⟩ : ∃ W : World, W = wo.alloc (.cells #[.slice PA PL.length Pk, .slice QA QL.length Qk] 39) := ⟨_, rfl⟩
      have hWB : Below wo.heap.size wo W := by rw [hW]; exact alloc_below (Below.refl _ _) _
      have HXB := hid (show Blk W wo.heap.size #[.slice PA PL.length Pk, .slice QA QL.length Qk] 39 by rw [hW]; exact Blk.new _ _ _)
      go_upto_region 10 with fail
      -- STOP-e
      rw [← hW]
      clear hW c0 c1 hb
      have HBW := hid (Below.step' HB.out hWB)
      have hzW : w2.heap.size ≤ W.heap.size := Nat.le_trans hz2 hWB.size
      have hvo : vp < wo.heap.size := HU.out.box.lt
      replace HU := hid (HU.out.step hWB)
      replace HFJ := hid (HFJ.out.step hWB)
      replace SX := hid (SX.out.step hWB)
      replace SY := hid (SY.out.step hWB)
      replace SZ := hid (SZ.out.step hWB)
      have hlx := set_len4 HX.out HUOK.out.s0
      have hly := set_len4 HY.out HUOK.out.s1
      have hlz := set_len4 HZ.out (VS.told_set HUOK.out)
      try simp only at hlx hly hlz
      clear hWB
      have HA0 := hid (add_any XL PL XA PA Xk Pk W SX.out.rowI (by omega) HFJ.out.1.1 HFJ.out.1.2)
      obtain ⟨cHXB, fHXB, sHXB, nHXB⟩ := HXB.out.all
      try simp only [cbox] at cHXB
      go_wp2_with fail
      refine HA0.out.mono ?_
      rintro e w4 ⟨A4, k4, M4, rfl, hi4, ho4, hn4, hb4⟩
      clear cHXB fHXB sHXB nHXB
      have HS4 := hid (show SetIn w4 w2.heap.size A4 k4 M4 from SetIn.lo ⟨ho4, hn4⟩ hzW)
      have HI4 := hid hi4
      have HB4 := hid (Below.step' HBW.out hb4)
      have hz4 : w2.heap.size ≤ w4.heap.size := Nat.le_trans hzW hb4.size
      replace HXB := hid (HXB.out.step hb4)
      replace HU := hid (HU.out.step hb4)
      replace HFJ := hid (HFJ.out.step hb4)
      replace SX := hid (SX.out.step hb4)
      replace SY := hid (SY.out.step hb4)
      replace SZ := hid (SZ.out.step hb4)
      clear hi4 ho4 hn4 hb4 HA0
      have HA1 := hid (add_any YL QL YA QA Yk Qk w4 SY.out.rowI (by omega) HFJ.out.2.1 HFJ.out.2.2)
      obtain ⟨cHXB, fHXB, sHXB, nHXB⟩ := HXB.out.all
      try simp only [cbox] at cHXB
      go_wp2_with fail
      -- STOP-f
      refine HA1.out.mono ?_
      rintro e w5 ⟨A5, k5, M5, rfl, hi5, ho5, hn5, hb5⟩
      clear cHXB fHXB sHXB nHXB
      have HS5 := hid (show SetIn w5 w2.heap.size A5 k5 M5 from SetIn.lo ⟨ho5, hn5⟩ hz4)
      have HI5 := hid hi5
      have HB5 := hid (Below.step' HB4.out hb5)
      have hz5 : w2.heap.size ≤ w5.heap.size := Nat.le_trans hz4 hb5.size
      replace HXB := hid (HXB.out.step hb5)
      replace HU := hid (HU.out.step hb5)
      replace HFJ := hid (HFJ.out.step hb5)
      replace SX := hid (SX.out.step hb5)
      replace SY := hid (SY.out.step hb5)
      replace SZ := hid (SZ.out.step hb5)
      replace HS4 := hid (HS4.out.step hb5)
      clear hi5 ho5 hn5 hb5 HA1 hz4
      have HF1 := hid (feed_any u vp ⟨PL, PA, Pk⟩ ⟨QL, QA, Qk⟩ (fun b => b = vp ∨ b < w1.heap.size) w5 HU.out HUOK.out HUO.out (.inl rfl) (fun b h => by
        have h' : b = vp ∨ b < w1.heap.size := h
        omega) HFJ.out.1.1 HFJ.out.2.1 HFJ.out.1.2 HFJ.out.2.2)
      obtain ⟨cHXB, fHXB, sHXB, nHXB⟩ := HXB.out.all
      try simp only [cbox] at cHXB
      go_wp2_with fail
      -- STOP-g
      refine HF1.out.mono ?_
      rintro e w6 ⟨A6, k6, M6, rfl, hi6, hs6, hg6, v1, hv1, hvs1, ho1, -⟩
      clear cHXB fHXB sHXB nHXB
      have hlo5 : w.heap.size ≤ w5.heap.size := HB5.out.size
      have HB6 := hid (HB5.out.grown hg6 hlo5 (fun g e => by injection e with e; omega))
      replace HS4 := hid (HS4.out.fed HU.out hg6)
      replace HS5 := hid (HS5.out.fed HU.out hg6)
      replace SX := hid (SX.out.fed HU.out hg6)
      replace SY := hid (SY.out.fed HU.out hg6)
      replace SZ := hid (SZ.out.fed HU.out hg6)
      have HV1 := hid hv1
      have HVO1 := hid ho1
      have HVS1 := hid hvs1
      have HS6 := hid hs6
      have HI6 := hid hi6
      have hz6 : w2.heap.size ≤ w6.heap.size := Nat.le_trans hz5 hg6.size
      have HEAT := hid (fun he : u.vs.feedE (its PL) (its QL) = 0 => HUOK.out.eats he)
      have HBAD := hid (fun he : u.vs.feedE (its PL) (its QL) ≠ 0 => VS.fed_bad he)
      have HSM := hid (HUOK.out.more_small (its PL) (its QL))
      have HOKF := hid (HUOK.out.fed (its PL) (its QL))
      have HTL := hid ((HUOK.out.fed (its PL) (its QL)).tells)
      have HFQ := hid (show (u.vs.fed (its PL) (its QL)).q = sts L by rw [VS.fed_q, HUQ.out])
      try simp only at HX HY HZ
      rw [← HX.out, ← HY.out, ← HZ.out] at HEAT
      rw [← HZ.out] at HSM
      obtain ⟨E, hE⟩ : ∃ E, E = u.vs.feedE (its PL) (its QL) := ⟨_, rfl⟩
      obtain ⟨E0, hE0⟩ : ∃ E, E = addE (its XL) (its PL) := ⟨_, rfl⟩
      obtain ⟨E1, hE1⟩ : ∃ E, E = addE (its YL) (its QL) := ⟨_, rfl⟩
      rw [← hE] at HEAT HBAD
      rw [← hE0, ← hE1] at HEAT
      try simp only
      rw [← hE, ← hE0, ← hE1]
      clear hg6 hv1 hvs1 ho1 hs6 hi6 hE hE0 hE1 HU HF1 hlo5 hz5 HXB HFJ HUO
      by_cases hz : E = 0
      rotate_left
      · have t4 : (E != 0) = true := by simpa using hz
        obtain ⟨hfd, hmo⟩ := HBAD.out hz
        have hm6 : M6 = [] := by
          have := HI6.out
          try simp only at this
          rw [hmo] at this
          exact List.map_eq_nil_iff.1 this
        have HFD := hid hfd
        subst hm6
        clear hz hfd hmo HEAT HBAD
        go_wp2_with fail
        -- STOP-h
        go_roundw
        case rel =>
          have hvs : v1.vs = u.vs := by rw [HVS1.out]; exact HFD.out
          exact ⟨j + 1, v1, ⟨XL, XA, Xk⟩, ⟨YL, YA, Yk⟩, ⟨ZL, ZA, Zk⟩, by omega, by go_num, rfl, rfl, rfl, HV1, hid (by rw [hvs]; exact HUOK.out), HVO1, hid (by rw [hvs]; exact HUQ.out), hid (by rw [hvs]; exact HX.out), hid (by rw [hvs]; exact HY.out), hid (by rw [hvs]; exact HZ.out), SX, SY, SZ, hz6, HB6⟩
        case measure => simp [intOf]; omega
      · obtain ⟨q0, q1, q2, q3, q4⟩ := HEAT.out hz
        have t4 : (E != 0) = false := by simp [hz]
        subst hz
        subst q0
        subst q1
        have HQ := hid (⟨q2, q3, q4⟩ : _ ∧ _ ∧ _)
        have HM4 := hid (show its M4 = (u.vs.fed (its PL) (its QL)).T0 by rw [HI4.out]; exact q2)
        have HM5 := hid (show its M5 = (u.vs.fed (its PL) (its QL)).T1 by rw [HI5.out]; exact q3)
        have HSM6 := hid (show sumL (its (ZL ++ M6)) = (u.vs.fed (its PL) (its QL)).told by
          rw [its, List.map_append]
          have := HI6.out
          simp only [its] at this
          rw [this]
          exact q4)
        have HTOK := hid (totOk_small (M := ZL ++ M6) (l := its ZL ++ u.vs.more (its PL) (its QL)) (by
          rw [its, List.map_append]
          have := HI6.out
          simp only [its] at this
          rw [this]) HSM.out)
        have hl6 : ZL.length + M6.length ≤ 1200 := by
          have h1 := HSM.out.1
          have h2 := HI6.out
          try simp only at h2
          rw [← h2, List.length_append, its_len, its_len] at h1
          exact h1
        clear q2 q3 q4 HEAT HBAD HSM HQ HI6 HX HY HZ SX SY hlx hly
        obtain ⟨FV, hFV⟩ : ∃ V, V = u.vs.fed (its PL) (its QL) := ⟨_, rfl⟩
        try simp only at HVS1
        rw [← hFV] at HM4 HM5 HSM6 HOKF HTL HFQ HVS1
        clear hFV HUOK HUQ
        have HZR := hid SZ.out.rowI
        have HR6 := hid HS6.out.rowI
        go_upto_region 19 with fail
        -- STOP-i
        go_wp2_with (first
          | (at_builtin; refine wpList_append_row elem_item rfl _ _ rfl w6.heap.size (.slice none 0 0) 0 [] rfl (World.ownsRow_nil _ _ _ _) ZA ZL.length Zk w6.heap.size (rcells ZL) rfl (rcells_len ZL) HZR.out.1 (rcells_one ZL) ?_ ?_ ?_ ?_; rotate_right; intro v7 w7 hown7 hg7 hif7; rw [Nat.zero_add, List.nil_append] at hown7; obtain ⟨A7, c7, rfl⟩ := own_formS hown7; have hb7 : Below w6.heap.size w6 w7 := (Below.refl _ _).grown hg7 (Nat.le_refl _) (fun g e => nomatch e); rotate_left; (simp only [maxLen]; omega); (omega); (omega))
          | (at_builtin; refine wpList_append_row elem_item rfl _ _ rfl w6.heap.size (.slice A7 ZL.length c7) ZL.length (rcells ZL) rfl hown7 A6 M6.length k6 w7.heap.size (rcells M6) rfl (rcells_len M6) (HR6.out.step hb7).1 (rcells_one M6) ?_ ?_ ?_ ?_; rotate_right; intro v8 w8 hown8 hg8 hif8; obtain ⟨A8, c8, rfl⟩ := own_formS hown8; rotate_left; (simp only [maxLen]; omega); (omega); (exact hb7.size)))
        -- STOP-j
        have hb8 : Below w6.heap.size w6 w8 := hb7.grown hg8 hb7.size (fun g e => (hown7.lt g e).1)
        have HRW8 := hid (show RowI w8 w8.heap.size A8 (ZL ++ M6) from ⟨by rw [rcells, List.flatMap_append]; exact Row.of_ownS hown8, RowsAt.app (HZR.out.step hb8).2 (HR6.out.step hb8).2⟩)
        have HB8 := hid (Below.step' HB6.out hb8)
        have hz8 : w2.heap.size ≤ w8.heap.size := Nat.le_trans hz6 hb8.size
        replace HV1 := hid (HV1.out.step hb8)
        replace HS4 := hid (HS4.out.step hb8)
        replace HS5 := hid (HS5.out.step hb8)
        clear hown7 hg7 hif7 hown8 hg8 hif8 hb7 hb8 HZR HR6 HS6 SZ
        have hto := total_any (ZL ++ M6) A8 c8 w8 HRW8.out HTOK.out (Pow.step HT.out HB8.out)
        rw [List.length_append, HSM6.out] at hto
        refine hto.mono ?_
        rintro e w9 ⟨A9, k9, M9, rfl, hi9, ho9, hn9, hb9⟩
        have HS9 := hid (show SetIn w9 w2.heap.size A9 k9 M9 from SetIn.lo ⟨ho9, hn9⟩ hz8)
        have HI9 := hid hi9
        have HB9 := hid (Below.step' HB8.out hb9)
        have hz9 : w2.heap.size ≤ w9.heap.size := Nat.le_trans hz8 hb9.size
        replace HV1 := hid (HV1.out.step hb9)
        replace HS4 := hid (HS4.out.step hb9)
        replace HS5 := hid (HS5.out.step hb9)
        clear hi9 ho9 hn9 hb9 hto HRW8 HTOK HSM6
        have hl4 := set_len4 HM4.out HOKF.out.s0
        have hl5 := set_len4 HM5.out HOKF.out.s1
        have hl9 := set_len4 HI9.out (VS.told_set HOKF.out)
        have hev := eval_any L M4 M5 A A4 A5 k k4 k5 w9 (HR.out.step HB9.out) hl HS4.out.rowI (by omega) HS5.out.rowI (by omega)
        rw [HM4.out, HM5.out, ← HFQ.out, HTL.out.1, HTL.out.2] at hev
        have HEV := hid hev
        clear hev
        go_wp2_with fail
        -- STOP-k
        refine HEV.out.mono ?_
        rintro e w10 ⟨A10, k10, M10, rfl, hi10, ho10, hn10, hb10⟩
        have HS10 := hid (show SetIn w10 w2.heap.size A10 k10 M10 from SetIn.lo ⟨ho10, hn10⟩ hz9)
        have HI10 := hid hi10
        have HB10 := hid (Below.step' HB9.out hb10)
        have hz10 : w2.heap.size ≤ w10.heap.size := Nat.le_trans hz9 hb10.size
        replace HV1 := hid (HV1.out.step hb10)
        replace HS4 := hid (HS4.out.step hb10)
        replace HS5 := hid (HS5.out.step hb10)
        replace HS9 := hid (HS9.out.step hb10)
        clear hi10 ho10 hn10 hb10 HEV
        have hl10 := set_len4 HI10.out (VS.told_set HOKF.out)
        have hav := all_tells v1 vp w10 HV1.out (by rw [HVS1.out]; exact HOKF.out)
        rw [HVS1.out] at hav
        have HAV := hid hav
        clear hav
        go_wp2_with fail
        -- STOP-l
        refine HAV.out.mono ?_
        rintro e w11 ⟨A11, k11, M11, rfl, hi11, ho11, hn11, hb11⟩
        have HS11 := hid (show SetIn w11 w2.heap.size A11 k11 M11 from SetIn.lo ⟨ho11, hn11⟩ hz10)
        have HI11 := hid hi11
        have HB11 := hid (Below.step' HB10.out hb11)
        have hz11 : w2.heap.size ≤ w11.heap.size := Nat.le_trans hz10 hb11.size
        replace HV1 := hid (HV1.out.step hb11)
        replace HS4 := hid (HS4.out.step hb11)
        replace HS5 := hid (HS5.out.step hb11)
        replace HS9 := hid (HS9.out.step hb11)
        replace HS10 := hid (HS10.out.step hb11)
        clear hi11 ho11 hn11 hb11 HAV
        have hl11 := set_len4 HI11.out (VS.told_set HOKF.out)
        have hss := sameSet_any M11 M10 A11 A10 k11 k10 w11 HS11.out.rowI (by omega) HS10.out.rowI (by omega)
        rw [HI11.out, HI10.out, decide_eq_true rfl] at hss
        have HSS := hid hss
        clear hss
        go_wp2_with fail
        -- STOP-m
        refine HSS.out.mono ?_
        rintro e w12 ⟨rfl, hb12⟩
        have HB12 := hid (Below.step' HB11.out hb12)
        have hz12' : w2.heap.size ≤ w12.heap.size := Nat.le_trans hz11 hb12.size
        replace HV1 := hid (HV1.out.step hb12)
        replace HS4 := hid (HS4.out.step hb12)
        replace HS5 := hid (HS5.out.step hb12)
        replace HS9 := hid (HS9.out.step hb12)
        replace HS10 := hid (HS10.out.step hb12)
        clear hb12 HSS
        have hss := sameSet_any M9 M10 A9 A10 k9 k10 w12 HS9.out.rowI (by omega) HS10.out.rowI (by omega)
        rw [HI9.out, HI10.out, decide_eq_true rfl] at hss
        have HSS := hid hss
        clear hss
        go_wp2_with fail
        -- STOP-n
        refine HSS.out.mono ?_
        rintro e w13 ⟨rfl, hb13⟩
        have HB13 := hid (Below.step' HB12.out hb13)
        have hz13 : w2.heap.size ≤ w13.heap.size := Nat.le_trans hz12' hb13.size
        replace HV1 := hid (HV1.out.step hb13)
        replace HS4 := hid (HS4.out.step hb13)
        replace HS5 := hid (HS5.out.step hb13)
        replace HS9 := hid (HS9.out.step hb13)
        clear hb13 HSS
        go_wp2_with fail
        -- STOP-o
        go_roundw
        case rel =>
          exact ⟨j + 1, v1, ⟨M4, A4, k4⟩, ⟨M5, A5, k5⟩, ⟨M9, A9, k9⟩, by omega, by go_num, rfl, rfl, rfl, HV1, hid (by rw [HVS1.out]; exact HOKF.out), HVO1, hid (by rw [HVS1.out]; exact HFQ.out), hid (by rw [HVS1.out]; exact HM4.out), hid (by rw [HVS1.out]; exact HM5.out), hid (by rw [HVS1.out]; exact HI9.out), HS4, HS5, HS9, hz13, HB13⟩
        case measure => simp [intOf]; omega
    · have t3 : ((j : Int) < (l.length : Int)) = False := eq_false (by omega)
      go_wp2_with fail
      -- STOP-z
      go_ret
      exact ⟨rfl, HB.out⟩
end Go.Proofs.YtldlmkfigjicgaaDoor
