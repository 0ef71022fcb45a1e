/- IvL, IvP -/
import Derived.Test.YtaclcbnanngciaaCk16
import Derived.Test.YtaclcbnanngciaaCk07
/- viewkeep.kept0. -/
namespace Go.Proofs.Ytaclcbnanngciaa
set_option linter.unusedVariables false
set_option linter.unusedSimpArgs false
open Go.ChangeShapes Go.WideShapes Go.ChangeAt Go.RowKit

abbrev q0 : List St := [⟨1, 0, 0, 0, 0, 0, []⟩, ⟨8, 0, 0, 1, 0, 0, []⟩]
theorem q0_ok : queryE q0 = 0 := by decide +kernel
abbrev f1 : List It := [([1, 5, 0, 0], 1)]
abbrev f2 : List It := [([2, 5, 0, 0], 1)]
abbrev f12 : List It := [([1, 5, 0, 0], 1), ([2, 5, 0, 0], 1)]
theorem kept_1 : (VS.start q0).feedE f1 [] = 0 := by decide +kernel
theorem kept_v1 : (VS.start q0).fed f1 [] = ⟨q0, f1, [], [f1, [([5, 1], 1)]]⟩ := by kernel_rfl
theorem kept_s : setI f12 = 0 := by decide +kernel
theorem kept_d : doneE f12 = 0 := by decide +kernel
theorem kept_sum : sumL (f1 ++ f2) = f12 := sumL_strict (setI_zero.1 kept_s).2.2
theorem kept_sum' : sumL f12 = f12 := sumL_strict (setI_zero.1 kept_s).2.2
theorem kept_g : stL ⟨8, 0, 0, 1, 0, 0, []⟩ f12 f12 = [([5, 2], 1)] := by decide +kernel
theorem kept_5 : setI [([5, 2], 1)] = 0 := by decide +kernel
theorem kept_5s : sumL [([5, 2], 1)] = [([5, 2], 1)] := sumL_strict (setI_zero.1 kept_5).2.2
theorem kept_G (T : List It) : setsG f12 T q0 [] = (0, [f12, [([5, 2], 1)]]) := by
  have e1 : atL f12 T ⟨1, 0, 0, 0, 0, 0, []⟩ [] = f12 := rfl
  have e2 : atL f12 T ⟨8, 0, 0, 1, 0, 0, []⟩ [f12] = [([5, 2], 1)] := kept_g
  have d2 : doneE [([5, 2], 1)] = 0 := by decide +kernel
  rw [setsG, e1, kept_sum', if_neg (by rw [kept_d]; simp), List.nil_append, setsG, e2, kept_5s, if_neg (by rw [d2]; simp), setsG]
  rfl
theorem kept_2 : (⟨q0, f1, [], [f1, [([5, 1], 1)]]⟩ : VS).feedE f2 [] = 0 := VS.feedE_zero (by decide +kernel)
  (addE_zero.2 ⟨by decide +kernel, by decide +kernel, by show doneE (sumL (f1 ++ f2)) = 0; rw [kept_sum]; exact kept_d⟩) (by decide +kernel)
  (by show (setsG (sumL (f1 ++ f2)) (sumL ([] ++ [])) q0 []).1 = 0; rw [kept_sum, kept_G])
theorem kept_6 : setI [([5, 1], -1), ([5, 2], 1)] = 0 := by decide +kernel
theorem kept_3 : (⟨q0, f1, [], [f1, [([5, 1], 1)]]⟩ : VS).more f2 [] = [([5, 1], -1), ([5, 2], 1)] := by
  unfold VS.more
  rw [if_pos kept_2, VS.fed_eq kept_2]
  have e : setsG (sumL (f1 ++ f2)) (sumL ([] ++ [])) q0 [] = (0, [f12, [([5, 2], 1)]]) := by rw [kept_sum, kept_G]
  show subL [([5, 1], 1)] (((setsG (sumL (f1 ++ f2)) (sumL ([] ++ [])) q0 []).2).getLastD []) = _
  rw [e]
  show sumL [([5, 2], 1), ([5, 1], -1)] = _
  rw [← sumL_strict (setI_zero.1 kept_6).2.2]
  refine sumL_same fun r => ?_
  unfold wt
  rw [tot_perm (List.Perm.swap _ _ _)]
theorem RowI.nil' (w : World) (A : Option Addr) : RowI w w.heap.size A [] := ⟨.inl rfl, fun x hx => by simp at hx⟩
set_option maxHeartbeats 2000000 in
set_option maxRecDepth 100000 in
theorem kept_any (w : World) : Calls Try.prog 4 #[] w fun e w' => e = .returned (.bool true) ∧ Below w.heap.size w w' := by
  have HNW := hid (fun (w1 : World) A0 c0 (r0 : Row w1 w1.heap.size A0 [.int .i64 1, .int .i64 0, .int .i64 0, .int .i64 0, .int .i64 0, .int .i64 0, .slice none 0 0, .int .i64 8, .int .i64 0, .int .i64 0, .int .i64 1, .int .i64 0, .int .i64 0, .slice none 0 0]) =>
    show Calls Try.prog 5 #[.slice A0 2 c0] w1 (NewPost q0 w1) from
      inew_any [⟨⟨1, 0, 0, 0, 0, 0, []⟩, none, 0⟩, ⟨⟨8, 0, 0, 1, 0, 0, []⟩, none, 0⟩] A0 c0 w1 ⟨r0, fun x hx => by
        simp only [List.mem_cons, List.not_mem_nil, or_false] at hx
        rcases hx with rfl | rfl <;> exact ⟨.inl rfl, by simp⟩⟩ (by simp))
  have HFD := hid (fun (v : VR) (vp : Nat) (AV : Nat → Prop) (x : Int) (w1 : World) (A0 A1 : Option Addr) (hv : v.at_ w1 vp) (hok : v.vs.ok) (ho : v.off AV) (hav : AV vp) (hAV : ∀ b, AV b → b < w1.heap.size) (r1 : Row w1 w1.heap.size A1 [.slice A0 4 4, .int .i64 1]) (r0 : Row w1 w1.heap.size A0 (icells' [x, 5, 0, 0])) =>
    show Calls Try.prog 7 #[.pointer (some ⟨vp, 0, none⟩), .slice A1 1 1, .slice none 0 0] w1 (FeedPost v vp AV [([x, 5, 0, 0], 1)] [] w1) from
      feed_any v vp ⟨[⟨[x, 5, 0, 0], A0, 4, 1⟩], A1, 1⟩ ⟨[], none, 0⟩ AV w1 hv hok ho hav hAV ⟨r1, fun y hy => by
        simp only [List.mem_cons, List.not_mem_nil, or_false] at hy
        subst hy
        exact ⟨r0, by simp⟩⟩ (RowI.nil' _ _) (by simp) (by simp))
  go_enter Try.func4, Try.ntmps4
  go_wp2_with fail
  -- STOP-a
  obtain ⟨wa, hwa⟩ : ∃ q : World, q = w.alloc (.cells #[.int .i64 1, .int .i64 0, .int .i64 0, .int .i64 0, .int .i64 0, .int .i64 0, .slice none 0 0, .int .i64 8, .int .i64 0, .int .i64 0, .int .i64 1, .int .i64 0, .int .i64 0, .slice none 0 0] 38) := ⟨_, rfl⟩
  have HBA := hid (show Below w.heap.size w wa by rw [hwa]; exact alloc_below (Below.refl _ _) _)
  have hnw := HNW.out wa (some ⟨w.heap.size, 0, none⟩) 2 (by rw [hwa]; exact Row.new' w _ _ rfl rfl (by simp))
  rw [← hwa]
  clear hwa HNW
  refine hnw.mono ?_
  rintro e w2 (⟨h, -⟩ | ⟨-, vp, v, rfl, hv, hq, h0, h1, hN, hNn, hvp, hb2, ho⟩)
  · exact absurd q0_ok h
  have HVS := hid (vs_new hq h0 h1 hN hNn)
  have HOK := hid (show v.vs.ok by rw [HVS.out]; exact VS.start_ok q0_ok)
  have HV := hid hv
  have HO := hid ho
  have hlo : wa.heap.size ≤ w2.heap.size := hb2.size
  have hvl := hv.box.lt
  have hw0 : w.heap.size ≤ vp := Nat.le_trans HBA.out.size hvp
  have HB2 := hid (Below.step' HBA.out hb2)
  clear hq h0 h1 hN hNn hv ho hb2 hnw
  go_wp2_with fail
  -- STOP-b
  obtain ⟨wb, hwb⟩ : ∃ q : World, q = (w2.alloc (.cells #[.int .i64 1, .int .i64 5, .int .i64 0, .int .i64 0] 3)).alloc (.cells #[.slice (some ⟨w2.heap.size, 0, none⟩) 4 4, .int .i64 1] 40) := ⟨_, rfl⟩
  have hbb : Below w2.heap.size w2 wb := by rw [hwb]; exact ((Below.refl _ _).alloc (Nat.le_refl _) _).alloc (by simp) _
  have hc1 := HFD.out v vp _ 1 wb (some ⟨w2.heap.size, 0, none⟩) (some ⟨w2.heap.size + 1, 0, none⟩) (HV.out.step hbb) HOK.out HO.out (.inl rfl) (fun b h => by have := hbb.size; omega)
    (by rw [hwb]; exact Row.new' (w2.alloc _) _ _ (by simp) rfl (by simp)) (by rw [hwb]; exact (Row.new' w2 _ _ rfl rfl (by simp)).alloc _)
  rw [← hwb]
  clear hwb
  refine hc1.mono ?_
  rintro e w3 ⟨A3, k3, M3, rfl, -, -, hg3, v1, hv1, hvs1, ho1, -⟩
  rw [HVS.out] at hvs1 ⊢
  rw [kept_v1] at hvs1
  rw [kept_1]
  have HVS1 := hid hvs1
  have HOK1 := hid (show v1.vs.ok by rw [hvs1, ← kept_v1]; exact (VS.start_ok q0_ok).fed _ _)
  have HV1 := hid hv1
  have HO1 := hid ho1
  have HB3 := hid ((HB2.out.trans (hbb.mono HB2.out.size)).grown hg3 (Nat.le_trans HB2.out.size hbb.size) (fun g e => by injection e with e; omega))
  have hvl3 := hv1.box.lt
  have hlo3 : wa.heap.size ≤ w3.heap.size := Nat.le_trans (Nat.le_trans hlo hbb.size) hg3.size
  clear hc1 hbb hg3 hv1 hvs1 ho1 HV HO HOK HVS hlo hvl HB2
  go_wp2_with fail
  -- STOP-c
  obtain ⟨wb, hwb⟩ : ∃ q : World, q = (w3.alloc (.cells #[.int .i64 2, .int .i64 5, .int .i64 0, .int .i64 0] 3)).alloc (.cells #[.slice (some ⟨w3.heap.size, 0, none⟩) 4 4, .int .i64 1] 40) := ⟨_, rfl⟩
  have hbb : Below w3.heap.size w3 wb := by rw [hwb]; exact ((Below.refl _ _).alloc (Nat.le_refl _) _).alloc (by simp) _
  have hc1 := HFD.out v1 vp _ 2 wb (some ⟨w3.heap.size, 0, none⟩) (some ⟨w3.heap.size + 1, 0, none⟩) (HV1.out.step hbb) HOK1.out HO1.out (.inl rfl) (fun b h => by have := hbb.size; omega)
    (by rw [hwb]; exact Row.new' (w3.alloc _) _ _ (by simp) rfl (by simp)) (by rw [hwb]; exact (Row.new' w3 _ _ rfl rfl (by simp)).alloc _)
  rw [← hwb]
  clear hwb
  refine hc1.mono ?_
  rintro e w4 ⟨A4, k4, M4, rfl, hi4, hs4, hg4, -⟩
  rw [HVS1.out] at hi4 ⊢
  rw [kept_3] at hi4
  rw [kept_2]
  have HB4 := hid ((HB3.out.trans (hbb.mono HB3.out.size)).grown hg4 (Nat.le_trans HB3.out.size hbb.size) (fun g e => by injection e with e; omega))
  have HS4 := hid hs4.rowI
  have HI4 := hid hi4
  have hl4 : M4.length = 2 := by rw [← its_len, hi4]; rfl
  have HL4 := hid hl4
  clear hc1 hbb hg4 hs4 hi4 hl4 HV1 HO1 HOK1 HVS1 hlo3 hvl3 HB3 HFD
  have HSS : Hid (∀ w5 A3 A4' A5, Below w4.heap.size w4 w5 → Row w5 w5.heap.size A3 [.slice A4' 2 2, .int .i64 (-1), .slice A5 2 2, .int .i64 1] → Row w5 w5.heap.size A4' (icells' [5, 1]) → Row w5 w5.heap.size A5 (icells' [5, 2]) → Calls Try.prog 8 #[.slice A4 M4.length k4, .slice A3 2 2] w5 fun e w' => e = .returned (.bool true) ∧ Below w5.heap.size w5 w') := hid (fun w5 A3 A4' A5 hb h3 h4 h5 => by
    have h := sameSet_any M4 [⟨[5, 1], A4', 2, -1⟩, ⟨[5, 2], A5, 2, 1⟩] A4 A3 k4 2 w5 (HS4.out.step hb) (by rw [HL4.out]; decide) ⟨by simpa [rcells, IR.cells] using h3, fun x hx => by
      simp only [List.mem_cons, List.not_mem_nil, or_false] at hx
      rcases hx with rfl | rfl
      · exact ⟨h4, by simp⟩
      · exact ⟨h5, by simp⟩⟩ (by simp)
    rw [HI4.out, show its [⟨[5, 1], A4', 2, -1⟩, ⟨[5, 2], A5, 2, 1⟩] = [([5, 1], -1), ([5, 2], 1)] from rfl, decide_eq_true rfl] at h
    exact h)
  go_wp2_with fail
  -- STOP-d
  obtain ⟨wb, hwb⟩ : ∃ q : World, q = ((w4.alloc (.cells #[.int .i64 5, .int .i64 1] 3)).alloc (.cells #[.int .i64 5, .int .i64 2] 3)).alloc (.cells #[.slice (some ⟨w4.heap.size, 0, none⟩) 2 2, .int .i64 (-1), .slice (some ⟨w4.heap.size + 1, 0, none⟩) 2 2, .int .i64 1] 40) := ⟨_, rfl⟩
  have hbb : Below w4.heap.size w4 wb := by rw [hwb]; exact (((Below.refl _ _).alloc (Nat.le_refl _) _).alloc (by simp) _).alloc (by simp; omega) _
  have hc1 := HSS.out wb (some ⟨w4.heap.size + 1 + 1, 0, none⟩) (some ⟨w4.heap.size, 0, none⟩) (some ⟨w4.heap.size + 1, 0, none⟩) hbb
    (by rw [hwb]; exact Row.new' ((w4.alloc _).alloc _) _ _ (by simp) rfl (by simp)) (by rw [hwb]; exact ((Row.new' w4 _ _ rfl rfl (by simp)).alloc _).alloc _) (by rw [hwb]; exact (Row.new' (w4.alloc _) _ _ (by simp) rfl (by simp)).alloc _)
  rw [← hwb]
  clear hwb
  refine hc1.mono ?_
  rintro e w5 ⟨rfl, hb5⟩
  have HB5 := hid (HB4.out.trans ((hbb.trans (hb5.mono hbb.size)).mono HB4.out.size))
  clear hc1 hbb hb5 HSS HS4 HI4 HL4
  go_wp2
  go_ret
  exact ⟨rfl, HB5.out⟩
end Go.Proofs.Ytaclcbnanngciaa
/- viewkeep.IncParts. -/
namespace Go.Proofs.Ytaclcbnanngciaa
set_option linter.unusedVariables false
set_option linter.unusedSimpArgs false
open Go.ChangeShapes Go.WideShapes Go.ChangeAt Go.RowKit

theorem addX_len {a b : List It} {M : List IR} (h : addE a b = 0) (hM : its M = addX a b) : M.length ≤ 400 := by
  have h1 := done_set (addE_zero.1 h).2.2
  unfold addX at hM
  rw [if_pos h] at hM
  rw [← hM] at h1
  have := (setI_zero.1 h1).1
  rwa [its_len] at this
theorem SetIn.fed {w w' : World} {vp lo : Nat} {v : VR} {A : Option Addr} {k : Nat} {L : List IR} (h : SetIn w lo A k L) (hv : v.at_ w vp) (hg : w.grownBy w' (some vp)) : SetIn w' lo A k L := by
  have hst : ∀ T, T ≠ 46 → Stand T w w' := fun T hne => Stand.grown hg fun g cur d hc q => by
    injection q with q
    subst q
    have := hv.box
    unfold Blk at this
    rw [hc] at this
    injection this with this
    injection this with _ this _
    exact hne this
  exact h.stand (hst _ (by decide)) (hst _ (by decide)) hg.size
set_option maxHeartbeats 4000000 in
set_option maxRecDepth 100000 in
theorem incParts_any (L : List SR) (A : Option Addr) (k : Nat) (X0 X1 Y0 Y1 : LR) (w : World) (hr : RowS w w.heap.size A L) (hl : L.length ≤ 9223372036854775807)
    (x0 : RowI w w.heap.size X0.A X0.L) (x1 : RowI w w.heap.size X1.A X1.L) (y0 : RowI w w.heap.size Y0.A Y0.L) (y1 : RowI w w.heap.size Y1.A Y1.L)
    (lx0 : X0.L.length ≤ 9223372036854775807) (lx1 : X1.L.length ≤ 9223372036854775807) (ly0 : Y0.L.length ≤ 9223372036854775807) (ly1 : Y1.L.length ≤ 9223372036854775807) :
    Calls Try.prog 3 #[.slice A L.length k, .agg #[.slice X0.A X0.L.length X0.k, .slice X1.A X1.L.length X1.k], .agg #[.slice Y0.A Y0.L.length Y0.k, .slice Y1.A Y1.L.length Y1.k]] w fun e w' => e = .returned (.bool true) ∧ Below w.heap.size w w' := by
  have HK := hid kept_any
  have HN := hid (fun (w1 : World) (hb : Below w.heap.size w w1) => inew_any L A k w1 (hr.step hb) hl)
  have HA0 := hid (fun (w1 : World) (hb : Below w.heap.size w w1) => add_any X0.L Y0.L X0.A Y0.A X0.k Y0.k w1 (x0.step hb) lx0 (y0.step hb) ly0)
  have HA1 := hid (fun (w1 : World) (hb : Below w.heap.size w w1) => add_any X1.L Y1.L X1.A Y1.A X1.k Y1.k w1 (x1.step hb) lx1 (y1.step hb) ly1)
  have HX := hid (fun (w1 : World) (hb : Below w.heap.size w w1) => (⟨x0.step hb, x1.step hb, y0.step hb, y1.step hb⟩ : _ ∧ _ ∧ _ ∧ _))
  clear hr x0 x1 y0 y1
  go_enter Try.func3, Try.ntmps3
  obtain ⟨wa, hwa⟩ : ∃ q : World, q = (w.alloc (.cells #[.slice X0.A X0.L.length X0.k, .slice X1.A X1.L.length X1.k] 25)).alloc (.cells #[.slice Y0.A Y0.L.length Y0.k, .slice Y1.A Y1.L.length Y1.k] 25) := ⟨_, rfl⟩
  have hba : Below w.heap.size w wa := by rw [hwa]; exact ((Below.refl _ _).alloc (Nat.le_refl _) _).alloc (by simp) _
  have hbx : Blk wa w.heap.size #[.slice X0.A X0.L.length X0.k, .slice X1.A X1.L.length X1.k] 25 := by rw [hwa]; exact (Blk.new _ _ _).alloc _
  have hby : Blk wa (w.heap.size + 1) #[.slice Y0.A Y0.L.length Y0.k, .slice Y1.A Y1.L.length Y1.k] 25 := by rw [hwa]; exact Blk.new' _ _ _ (by simp)
  go_wp2_with fail
  rw [← hwa]
  clear hwa
  refine (HK.out wa).mono ?_
  rintro e w1 ⟨rfl, hb1⟩
  have HB1 := hid (Below.step' hba hb1)
  have HBX := hid (hbx.step hb1)
  have HBY := hid (hby.step hb1)
  have hw1 : w.heap.size + 1 < w1.heap.size := (hby.step hb1).lt
  clear hb1 HK hba hbx hby
  go_wp2_with fail
  -- STOP-a
  refine (HN.out w1 HB1.out).mono ?_
  by_cases hq : queryE (sts L) = 0
  rotate_left
  · rintro e w2 (⟨-, rfl, hb2⟩ | ⟨h, -⟩)
    rotate_left
    · exact absurd h hq
    have HB2 := hid (Below.step' HB1.out hb2)
    go_wp2_with fail
    refine (HN.out w2 HB2.out).mono ?_
    rintro e w3 (⟨-, rfl, hb3⟩ | ⟨h, -⟩)
    rotate_left
    · exact absurd h hq
    have HB3 := hid (Below.step' HB2.out hb3)
    obtain ⟨E, hE⟩ : ∃ E, E = queryE (sts L) := ⟨_, rfl⟩
    rw [← hE] at hq ⊢
    have t1 : (E != 0) = true := by simpa using hq
    clear hE hq hb2 hb3 HBX HBY HX HA0 HA1 HN
    go_wp2_with fail
    -- STOP-b
    go_ret
    exact ⟨by rfl, HB3.out⟩
  rintro e w2 (⟨h, -⟩ | ⟨-, vp, v, rfl, hv, hsq, h0, h1, hNl, hNn, hvp, hb2, ho⟩)
  · exact absurd hq h
  have HVS := hid (vs_new hsq h0 h1 hNl hNn)
  have HB2 := hid (Below.step' HB1.out hb2)
  have HV := hid hv
  have HVO := hid (hv.off_new ho)
  have hvl : vp < w2.heap.size := hv.box.lt
  have hz12 : w1.heap.size ≤ w2.heap.size := hb2.size
  replace HBX := hid (HBX.out.step hb2)
  replace HBY := hid (HBY.out.step hb2)
  clear hsq h0 h1 hNl hNn hv ho hb2
  go_wp2_with fail
  refine (HN.out w2 HB2.out).mono ?_
  rintro e w3 (⟨h, -⟩ | ⟨-, up, u, rfl, hu, hsq, h0, h1, hNl, hNn, hup, hb3, ho⟩)
  · exact absurd hq h
  have HUS := hid (vs_new hsq h0 h1 hNl hNn)
  have HB3 := hid (Below.step' HB2.out hb3)
  replace HV := hid (HV.out.step hb3)
  have HU := hid hu
  have HVO := hid (HVO.out.imp (BV := fun b => b = vp ∨ b = up ∨ b < w1.heap.size) fun b h => show (b = vp ∨ b < w1.heap.size) ∨ w2.heap.size ≤ b by
    have h' : b = vp ∨ b = up ∨ b < w1.heap.size := h
    omega)
  have HUO := hid (ho.imp (BV := fun b => b = vp ∨ b = up ∨ b < w1.heap.size) fun b h => show b = up ∨ b < w2.heap.size by
    have h' : b = vp ∨ b = up ∨ b < w1.heap.size := h
    omega)
  have hul : up < w3.heap.size := hu.box.lt
  have hvl3 : vp < w3.heap.size := Nat.lt_of_lt_of_le hvl hb3.size
  have hne : vp ≠ up := by omega
  have HQ := hid hq
  replace HBX := hid (HBX.out.step hb3)
  replace HBY := hid (HBY.out.step hb3)
  clear hsq h0 h1 hNl hNn hu ho hb3 HN hq
  obtain ⟨cHBX, fHBX, sHBX, nHBX⟩ := HBX.out.all
  try simp only [cbox] at cHBX
  obtain ⟨cHBY, fHBY, sHBY, nHBY⟩ := HBY.out.all
  try simp only [cbox] at cHBY
  go_wp2_with fail
  -- STOP-c
  refine (HA0.out w3 HB3.out).mono ?_
  rintro e w4 ⟨A4, k4, M4, rfl, hi4, ho4, hn4, hb4⟩
  clear cHBX fHBX sHBX nHBX
  clear cHBY fHBY sHBY nHBY
  have HS4 := hid (show SetIn w4 w3.heap.size A4 k4 M4 from ⟨ho4, hn4⟩)
  have HI4 := hid hi4
  have HB4 := hid (Below.step' HB3.out hb4)
  have hz34 : w3.heap.size ≤ w4.heap.size := hb4.size
  replace HBX := hid (HBX.out.step hb4)
  replace HBY := hid (HBY.out.step hb4)
  replace HV := hid (HV.out.step hb4)
  replace HU := hid (HU.out.step hb4)
  obtain ⟨E0, hE0⟩ : ∃ E, E = addE (its X0.L) (its Y0.L) := ⟨_, rfl⟩
  rw [← hE0]
  have HE0 := hid hE0
  clear hi4 ho4 hn4 hb4 HA0 hE0
  obtain ⟨cHBX, fHBX, sHBX, nHBX⟩ := HBX.out.all
  try simp only [cbox] at cHBX
  obtain ⟨cHBY, fHBY, sHBY, nHBY⟩ := HBY.out.all
  try simp only [cbox] at cHBY
  go_wp2_with fail
  -- STOP-d
  refine (HA1.out w4 HB4.out).mono ?_
  rintro e w5 ⟨A5, k5, M5, rfl, hi5, ho5, hn5, hb5⟩
  clear cHBX fHBX sHBX nHBX
  clear cHBY fHBY sHBY nHBY
  have HS5 := hid (show SetIn w5 w3.heap.size A5 k5 M5 from SetIn.lo ⟨ho5, hn5⟩ hz34)
  have HI5 := hid hi5
  have HB5 := hid (Below.step' HB4.out hb5)
  have hz35 : w3.heap.size ≤ w5.heap.size := Nat.le_trans hz34 hb5.size
  replace HBX := hid (HBX.out.step hb5)
  replace HBY := hid (HBY.out.step hb5)
  replace HV := hid (HV.out.step hb5)
  replace HU := hid (HU.out.step hb5)
  replace HS4 := hid (HS4.out.step hb5)
  obtain ⟨E1, hE1⟩ : ∃ E, E = addE (its X1.L) (its Y1.L) := ⟨_, rfl⟩
  rw [← hE1]
  have HE1 := hid hE1
  clear hi5 ho5 hn5 hb5 HA1 hE1 hz34
  obtain ⟨cHBX, fHBX, sHBX, nHBX⟩ := HBX.out.all
  try simp only [cbox] at cHBX
  obtain ⟨cHBY, fHBY, sHBY, nHBY⟩ := HBY.out.all
  try simp only [cbox] at cHBY
  go_wp2_with fail
  -- STOP-e
  have HF1 := hid (feed_any v vp X0 X1 (fun b => b = vp ∨ b = up ∨ b < w1.heap.size) w5 HV.out (by rw [HVS.out]; exact VS.start_ok HQ.out) HVO.out (.inl rfl) (fun b h => by
    have h' : b = vp ∨ b = up ∨ b < w1.heap.size := h
    omega) (HX.out w5 HB5.out).1 (HX.out w5 HB5.out).2.1 lx0 lx1)
  refine HF1.out.mono ?_
  rintro e w6 ⟨A6, k6, M6, rfl, -, -, hg6, v1, hv1, hvs1, ho1, -⟩
  clear cHBX fHBX sHBX nHBX
  clear cHBY fHBY sHBY nHBY
  have hlo5 : w.heap.size ≤ w5.heap.size := HB5.out.size
  have HB6 := hid (HB5.out.grown hg6 hlo5 (fun g e => by injection e with e; omega))
  replace HS4 := hid (HS4.out.fed HV.out hg6)
  replace HS5 := hid (HS5.out.fed HV.out hg6)
  replace HU := hid (HU.out.kept HUO.out hg6 (.inl rfl) (Ne.symm hne) ⟨_, _, _, HV.out.box⟩)
  replace HBX := hid (HBX.out.grown hg6 (fun e => by injection e with e; omega))
  replace HBY := hid (HBY.out.grown hg6 (fun e => by injection e with e; omega))
  replace HV := hid hv1
  replace HVO := hid ho1
  rw [HVS.out] at hvs1 ⊢
  have HV1 := hid hvs1
  have hz36 : w3.heap.size ≤ w6.heap.size := Nat.le_trans hz35 hg6.size
  obtain ⟨F1, hF1⟩ : ∃ E, E = (VS.start (sts L)).feedE (its X0.L) (its X1.L) := ⟨_, rfl⟩
  rw [← hF1]
  have HF1 := hid hF1
  clear hg6 hv1 hvs1 ho1 hF1 HVS hlo5 hz35
  obtain ⟨cHBX, fHBX, sHBX, nHBX⟩ := HBX.out.all
  try simp only [cbox] at cHBX
  obtain ⟨cHBY, fHBY, sHBY, nHBY⟩ := HBY.out.all
  try simp only [cbox] at cHBY
  go_wp2_with fail
  -- STOP-f
  have HF2 := hid (feed_any v1 vp Y0 Y1 (fun b => b = vp ∨ b = up ∨ b < w1.heap.size) w6 HV.out (by rw [HV1.out]; exact (VS.start_ok HQ.out).fed _ _) HVO.out (.inl rfl) (fun b h => by
    have h' : b = vp ∨ b = up ∨ b < w1.heap.size := h
    omega) (HX.out w6 HB6.out).2.2.1 (HX.out w6 HB6.out).2.2.2 ly0 ly1)
  refine HF2.out.mono ?_
  rintro e w7 ⟨A7, k7, M7, rfl, -, -, hg7, v2, hv2, hvs2, ho2, -⟩
  clear cHBX fHBX sHBX nHBX
  clear cHBY fHBY sHBY nHBY
  have hlo6 : w.heap.size ≤ w6.heap.size := HB6.out.size
  have HB7 := hid (HB6.out.grown hg7 hlo6 (fun g e => by injection e with e; omega))
  replace HS4 := hid (HS4.out.fed HV.out hg7)
  replace HS5 := hid (HS5.out.fed HV.out hg7)
  replace HU := hid (HU.out.kept HUO.out hg7 (.inl rfl) (Ne.symm hne) ⟨_, _, _, HV.out.box⟩)
  replace HV := hid hv2
  replace HVO := hid ho2
  rw [HV1.out] at hvs2 ⊢
  have HV2 := hid hvs2
  have hz37 : w3.heap.size ≤ w7.heap.size := Nat.le_trans hz36 hg7.size
  obtain ⟨F2, hF2⟩ : ∃ E, E = ((VS.start (sts L)).fed (its X0.L) (its X1.L)).feedE (its Y0.L) (its Y1.L) := ⟨_, rfl⟩
  rw [← hF2]
  have HF2 := hid hF2
  clear hg7 hv2 hvs2 ho2 hF2 HV1 hlo6 hz36 HX HBX HBY lx0 lx1 ly0 ly1
  by_cases hz : E0 = 0 ∧ E1 = 0 ∧ F1 = 0 ∧ F2 = 0
  rotate_left
  · have hret : ∀ e, e = Ending.returned (.bool true) → e = .returned (.bool true) ∧ Below w.heap.size w w7 := fun e h => ⟨h, HB7.out⟩
    by_cases z0 : E0 = 0
    · have t0 : (E0 != 0) = false := by simp [z0]
      by_cases z1 : E1 = 0
      · have t1 : (E1 != 0) = false := by simp [z1]
        by_cases z2 : F1 = 0
        · have t2 : (F1 != 0) = false := by simp [z2]
          have t3 : (F2 != 0) = true := by simpa using (fun z3 => hz ⟨z0, z1, z2, z3⟩)
          clear hz z0 z1 z2
          go_wp2_with fail
          go_ret
          exact hret _ rfl
        · have t2 : (F1 != 0) = true := by simpa using z2
          clear hz z0 z1 z2
          go_wp2_with fail
          go_ret
          exact hret _ rfl
      · have t1 : (E1 != 0) = true := by simpa using z1
        clear hz z0 z1
        go_wp2_with fail
        go_ret
        exact hret _ rfl
    · have t0 : (E0 != 0) = true := by simpa using z0
      clear hz z0
      go_wp2_with fail
      go_ret
      exact hret _ rfl
  obtain ⟨rfl, rfl, rfl, rfl⟩ := hz
  have HT := hid (VS.twice HQ.out HF1.out.symm HF2.out.symm HE0.out.symm HE1.out.symm)
  go_wp2_with fail
  -- STOP-g
  have hl4 := addX_len HE0.out.symm HI4.out
  have hl5 := addX_len HE1.out.symm HI5.out
  have HF3 := hid (feed_any u up ⟨M4, A4, k4⟩ ⟨M5, A5, k5⟩ (fun b => b = vp ∨ b = up ∨ b < w1.heap.size) w7 HU.out (by rw [HUS.out]; exact VS.start_ok HQ.out) HUO.out (.inr (.inl rfl)) (fun b h => by
    have h' : b = vp ∨ b = up ∨ b < w1.heap.size := h
    omega) HS4.out.rowI HS5.out.rowI (by show M4.length ≤ _; omega) (by show M5.length ≤ _; omega))
  refine HF3.out.mono ?_
  rintro e w8 ⟨A8, k8, M8, rfl, -, -, hg8, u1, hu1, hus1, -⟩
  have hlo7 : w.heap.size ≤ w7.heap.size := HB7.out.size
  have HB8 := hid (HB7.out.grown hg8 hlo7 (fun g e => by injection e with e; omega))
  replace HV := hid (HV.out.kept HVO.out hg8 (.inr (.inl rfl)) hne ⟨_, _, _, HU.out.box⟩)
  replace HU := hid hu1
  rw [HUS.out] at hus1 ⊢
  have e4 : its (⟨M4, A4, k4⟩ : LR).L = addX (its X0.L) (its Y0.L) := HI4.out
  have e5 : its (⟨M5, A5, k5⟩ : LR).L = addX (its X1.L) (its Y1.L) := HI5.out
  rw [e4, e5] at hus1 ⊢
  rw [HT.out.2] at hus1
  rw [HT.out.1]
  obtain ⟨V, hV⟩ : ∃ V, V = ((VS.start (sts L)).fed (its X0.L) (its X1.L)).fed (its Y0.L) (its Y1.L) := ⟨_, rfl⟩
  rw [← hV] at hus1
  have HVV := hid (show v2.vs = V by rw [HV2.out, hV])
  have HUV := hid hus1
  have HOK := hid (show V.ok by rw [hV]; exact ((VS.start_ok HQ.out).fed _ _).fed _ _)
  clear hg8 hu1 hus1 e4 e5 hl4 hl5 hV HS4 HS5 HI4 HI5 HT HF1 HF2 HF3 HE0 HE1 HV2 HUS
  go_wp2_with fail
  -- STOP-h
  have hav := all_tells v2 vp w8 HV.out (by rw [HVV.out]; exact HOK.out)
  rw [HVV.out] at hav
  refine hav.mono ?_
  rintro e w9 ⟨A9, k9, M9, rfl, hi9, ho9, hn9, hb9⟩
  have HS9 := hid (show RowI w9 w9.heap.size A9 M9 from SetIn.rowI (⟨ho9, hn9⟩ : SetIn w9 w8.heap.size A9 k9 M9))
  have HI9 := hid hi9
  have HB9 := hid (Below.step' HB8.out hb9)
  replace HU := hid (HU.out.step hb9)
  have hl9 : M9.length ≤ 400 := by have := (setI_zero.1 (VS.told_set HOK.out)).1; rw [← hi9, its_len] at this; exact this
  clear hi9 ho9 hn9 hb9 hav HV
  go_wp2_with fail
  -- STOP-i
  have hau := all_tells u1 up w9 HU.out (by rw [HUV.out]; exact HOK.out)
  rw [HUV.out] at hau
  refine hau.mono ?_
  rintro e w10 ⟨A10, k10, M10, rfl, hi10, ho10, hn10, hb10⟩
  have HS10 := hid (show RowI w10 w10.heap.size A10 M10 from SetIn.rowI (⟨ho10, hn10⟩ : SetIn w10 w9.heap.size A10 k10 M10))
  have HI10 := hid hi10
  have HB10 := hid (Below.step' HB9.out hb10)
  replace HS9 := hid (HS9.out.step hb10)
  have hl10 : M10.length ≤ 400 := by have := (setI_zero.1 (VS.told_set HOK.out)).1; rw [← hi10, its_len] at this; exact this
  clear hi10 ho10 hn10 hb10 hau HU
  go_wp2_with fail
  -- STOP-j
  have hss := sameSet_any M9 M10 A9 A10 k9 k10 w10 HS9.out (by omega) HS10.out (by omega)
  rw [HI9.out, HI10.out, decide_eq_true rfl] at hss
  refine hss.mono ?_
  rintro e w11 ⟨rfl, hb11⟩
  have HB11 := hid (Below.step' HB10.out hb11)
  clear hb11 hss
  go_wp2_with fail
  -- STOP-k
  go_ret
  exact ⟨rfl, HB11.out⟩
end Go.Proofs.Ytaclcbnanngciaa
