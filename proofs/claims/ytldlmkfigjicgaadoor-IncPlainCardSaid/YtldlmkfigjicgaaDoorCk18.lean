/- IvL, IvP -/
import Derived.Test.YtldlmkfigjicgaaDoorCk17
import Derived.Test.YtldlmkfigjicgaaDoorCk08
/- viewkeep.kept0. -/
namespace Go.Proofs.YtldlmkfigjicgaaDoor
set_option linter.unusedVariables false
set_option linter.unusedSimpArgs false
open Go.ChangeShapes Go.WideShapes Go.ChangeAt Go.RowKit

abbrev q0 : List St := [⟨1, 0, 0, 0, 0, 0, []⟩, ⟨8, 0, 0, 1, 0, 0, []⟩]
theorem q0_ok : queryE q0 = 0 := by decide +kernel
abbrev f1 : List It := [([1, 5, 0, 0], 1)]
abbrev f2 : List It := [([2, 5, 0, 0], 1)]
abbrev f12 : List It := [([1, 5, 0, 0], 1), ([2, 5, 0, 0], 1)]
theorem kept_1 : (VS.start q0).feedE f1 [] = 0 := by decide +kernel
theorem kept_v1 : (VS.start q0).fed f1 [] = ⟨q0, f1, [], [f1, [([5, 1], 1)]]⟩ := by kernel_rfl
theorem kept_s : setI f12 = 0 := by decide +kernel
theorem kept_d : doneE f12 = 0 := by decide +kernel
theorem kept_sum : sumL (f1 ++ f2) = f12 := sumL_strict (setI_zero.1 kept_s).2.2
theorem kept_sum' : sumL f12 = f12 := sumL_strict (setI_zero.1 kept_s).2.2
theorem kept_g : stL ⟨8, 0, 0, 1, 0, 0, []⟩ f12 f12 = [([5, 2], 1)] := by decide +kernel
theorem kept_5 : setI [([5, 2], 1)] = 0 := by decide +kernel
theorem kept_5s : sumL [([5, 2], 1)] = [([5, 2], 1)] := sumL_strict (setI_zero.1 kept_5).2.2
theorem kept_G (T : List It) : setsG f12 T q0 [] = (0, [f12, [([5, 2], 1)]]) := by
  have e1 : atL f12 T ⟨1, 0, 0, 0, 0, 0, []⟩ [] = f12 := rfl
  have e2 : atL f12 T ⟨8, 0, 0, 1, 0, 0, []⟩ [f12] = [([5, 2], 1)] := kept_g
  have d2 : doneE [([5, 2], 1)] = 0 := by decide +kernel
  rw [setsG, e1, kept_sum', if_neg (by rw [kept_d]; simp), List.nil_append, setsG, e2, kept_5s, if_neg (by rw [d2]; simp), setsG]
  rfl
theorem kept_2 : (⟨q0, f1, [], [f1, [([5, 1], 1)]]⟩ : VS).feedE f2 [] = 0 := VS.feedE_zero (by decide +kernel)
  (addE_zero.2 ⟨by decide +kernel, by decide +kernel, by show doneE (sumL (f1 ++ f2)) = 0; rw [kept_sum]; exact kept_d⟩) (by decide +kernel)
  (by show (setsG (sumL (f1 ++ f2)) (sumL ([] ++ [])) q0 []).1 = 0; rw [kept_sum, kept_G])
theorem kept_6 : setI [([5, 1], -1), ([5, 2], 1)] = 0 := by decide +kernel
theorem kept_3 : (⟨q0, f1, [], [f1, [([5, 1], 1)]]⟩ : VS).more f2 [] = [([5, 1], -1), ([5, 2], 1)] := by
  unfold VS.more
  rw [if_pos kept_2, VS.fed_eq kept_2]
  have e : setsG (sumL (f1 ++ f2)) (sumL ([] ++ [])) q0 [] = (0, [f12, [([5, 2], 1)]]) := by rw [kept_sum, kept_G]
  show subL [([5, 1], 1)] (((setsG (sumL (f1 ++ f2)) (sumL ([] ++ [])) q0 []).2).getLastD []) = _
  rw [e]
  show sumL [([5, 2], 1), ([5, 1], -1)] = _
  rw [← sumL_strict (setI_zero.1 kept_6).2.2]
  refine sumL_same fun r => ?_
  unfold wt
  rw [tot_perm (List.Perm.swap _ _ _)]
theorem RowI.nil' (w : World) (A : Option Addr) : RowI w w.heap.size A [] := ⟨.inl rfl, fun x hx => by simp at hx⟩
set_option maxHeartbeats 2000000 in
set_option maxRecDepth 100000 in
theorem kept_any (w : World) : Calls Tryd.prog 12 #[] w fun e w' => e = .returned (.bool true) ∧ Below w.heap.size w w' := by
  have HNW := hid (fun (w1 : World) A0 c0 (r0 : Row w1 w1.heap.size A0 [.int .i64 1, .int .i64 0, .int .i64 0, .int .i64 0, .int .i64 0, .int .i64 0, .slice none 0 0, .int .i64 8, .int .i64 0, .int .i64 0, .int .i64 1, .int .i64 0, .int .i64 0, .slice none 0 0]) =>
    show Calls Tryd.prog 13 #[.slice A0 2 c0] w1 (NewPost q0 w1) from
      inew_any [⟨⟨1, 0, 0, 0, 0, 0, []⟩, none, 0⟩, ⟨⟨8, 0, 0, 1, 0, 0, []⟩, none, 0⟩] A0 c0 w1 ⟨r0, fun x hx => by
        simp only [List.mem_cons, List.not_mem_nil, or_false] at hx
        rcases hx with rfl | rfl <;> exact ⟨.inl rfl, by simp⟩⟩ (by simp))
  have HFD := hid (fun (v : VR) (vp : Nat) (AV : Nat → Prop) (x : Int) (w1 : World) (A0 A1 : Option Addr) (hv : v.at_ w1 vp) (hok : v.vs.ok) (ho : v.off AV) (hav : AV vp) (hAV : ∀ b, AV b → b < w1.heap.size) (r1 : Row w1 w1.heap.size A1 [.slice A0 4 4, .int .i64 1]) (r0 : Row w1 w1.heap.size A0 (icells' [x, 5, 0, 0])) =>
    show Calls Tryd.prog 15 #[.pointer (some ⟨vp, 0, none⟩), .slice A1 1 1, .slice none 0 0] w1 (FeedPost v vp AV [([x, 5, 0, 0], 1)] [] w1) from
      feed_any v vp ⟨[⟨[x, 5, 0, 0], A0, 4, 1⟩], A1, 1⟩ ⟨[], none, 0⟩ AV w1 hv hok ho hav hAV ⟨r1, fun y hy => by
        simp only [List.mem_cons, List.not_mem_nil, or_false] at hy
        subst hy
        exact ⟨r0, by simp⟩⟩ (RowI.nil' _ _) (by simp) (by simp))
  go_enter Tryd.func12, Tryd.ntmps12
  go_wp2_with fail
  -- STOP-a
  obtain ⟨wa, hwa⟩ : ∃ q : World, q = w.alloc (.cells #[.int .i64 1, .int .i64 0, .int .i64 0, .int .i64 0, .int .i64 0, .int .i64 0, .slice none 0 0, .int .i64 8, .int .i64 0, .int .i64 0, .int .i64 1, .int .i64 0, .int .i64 0, .slice none 0 0] 64) := ⟨_, rfl⟩
  have HBA := hid (show Below w.heap.size w wa by rw [hwa]; exact alloc_below (Below.refl _ _) _)
  have hnw := HNW.out wa (some ⟨w.heap.size, 0, none⟩) 2 (by rw [hwa]; exact Row.new' w _ _ rfl rfl (by simp))
  rw [← hwa]
  clear hwa HNW
  refine hnw.mono ?_
  rintro e w2 (⟨h, -⟩ | ⟨-, vp, v, rfl, hv, hq, h0, h1, hN, hNn, hvp, hb2, ho⟩)
  · exact absurd q0_ok h
  have HVS := hid (vs_new hq h0 h1 hN hNn)
  have HOK := hid (show v.vs.ok by rw [HVS.out]; exact VS.start_ok q0_ok)
  have HV := hid hv
  have HO := hid ho
  have hlo : wa.heap.size ≤ w2.heap.size := hb2.size
  have hvl := hv.box.lt
  have hw0 : w.heap.size ≤ vp := Nat.le_trans HBA.out.size hvp
  have HB2 := hid (Below.step' HBA.out hb2)
  clear hq h0 h1 hN hNn hv ho hb2 hnw
  go_wp2_with fail
  -- STOP-b
  obtain ⟨wb, hwb⟩ : ∃ q : World, q = (w2.alloc (.cells #[.int .i64 1, .int .i64 5, .int .i64 0, .int .i64 0] 3)).alloc (.cells #[.slice (some ⟨w2.heap.size, 0, none⟩) 4 4, .int .i64 1] 51) := ⟨_, rfl⟩
  have hbb : Below w2.heap.size w2 wb := by rw [hwb]; exact ((Below.refl _ _).alloc (Nat.le_refl _) _).alloc (by simp) _
  have hc1 := HFD.out v vp _ 1 wb (some ⟨w2.heap.size, 0, none⟩) (some ⟨w2.heap.size + 1, 0, none⟩) (HV.out.step hbb) HOK.out HO.out (.inl rfl) (fun b h => by have := hbb.size; omega)
    (by rw [hwb]; exact Row.new' (w2.alloc _) _ _ (by simp) rfl (by simp)) (by rw [hwb]; exact (Row.new' w2 _ _ rfl rfl (by simp)).alloc _)
  rw [← hwb]
  clear hwb
  refine hc1.mono ?_
  rintro e w3 ⟨A3, k3, M3, rfl, -, -, hg3, v1, hv1, hvs1, ho1, -⟩
  rw [HVS.out] at hvs1 ⊢
  rw [kept_v1] at hvs1
  rw [kept_1]
  have HVS1 := hid hvs1
  have HOK1 := hid (show v1.vs.ok by rw [hvs1, ← kept_v1]; exact (VS.start_ok q0_ok).fed _ _)
  have HV1 := hid hv1
  have HO1 := hid ho1
  have HB3 := hid ((HB2.out.trans (hbb.mono HB2.out.size)).grown hg3 (Nat.le_trans HB2.out.size hbb.size) (fun g e => by injection e with e; omega))
  have hvl3 := hv1.box.lt
  have hlo3 : wa.heap.size ≤ w3.heap.size := Nat.le_trans (Nat.le_trans hlo hbb.size) hg3.size
  clear hc1 hbb hg3 hv1 hvs1 ho1 HV HO HOK HVS hlo hvl HB2
  go_wp2_with fail
  -- STOP-c
  obtain ⟨wb, hwb⟩ : ∃ q : World, q = (w3.alloc (.cells #[.int .i64 2, .int .i64 5, .int .i64 0, .int .i64 0] 3)).alloc (.cells #[.slice (some ⟨w3.heap.size, 0, none⟩) 4 4, .int .i64 1] 51) := ⟨_, rfl⟩
  have hbb : Below w3.heap.size w3 wb := by rw [hwb]; exact ((Below.refl _ _).alloc (Nat.le_refl _) _).alloc (by simp) _
  have hc1 := HFD.out v1 vp _ 2 wb (some ⟨w3.heap.size, 0, none⟩) (some ⟨w3.heap.size + 1, 0, none⟩) (HV1.out.step hbb) HOK1.out HO1.out (.inl rfl) (fun b h => by have := hbb.size; omega)
    (by rw [hwb]; exact Row.new' (w3.alloc _) _ _ (by simp) rfl (by simp)) (by rw [hwb]; exact (Row.new' w3 _ _ rfl rfl (by simp)).alloc _)
  rw [← hwb]
  clear hwb
  refine hc1.mono ?_
  rintro e w4 ⟨A4, k4, M4, rfl, hi4, hs4, hg4, -⟩
  rw [HVS1.out] at hi4 ⊢
  rw [kept_3] at hi4
  rw [kept_2]
  have HB4 := hid ((HB3.out.trans (hbb.mono HB3.out.size)).grown hg4 (Nat.le_trans HB3.out.size hbb.size) (fun g e => by injection e with e; omega))
  have HS4 := hid hs4.rowI
  have HI4 := hid hi4
  have hl4 : M4.length = 2 := by rw [← its_len, hi4]; rfl
  have HL4 := hid hl4
  clear hc1 hbb hg4 hs4 hi4 hl4 HV1 HO1 HOK1 HVS1 hlo3 hvl3 HB3 HFD
  have HSS : Hid (∀ w5 A3 A4' A5, Below w4.heap.size w4 w5 → Row w5 w5.heap.size A3 [.slice A4' 2 2, .int .i64 (-1), .slice A5 2 2, .int .i64 1] → Row w5 w5.heap.size A4' (icells' [5, 1]) → Row w5 w5.heap.size A5 (icells' [5, 2]) → Calls Tryd.prog 18 #[.slice A4 M4.length k4, .slice A3 2 2] w5 fun e w' => e = .returned (.bool true) ∧ Below w5.heap.size w5 w') := hid (fun w5 A3 A4' A5 hb h3 h4 h5 => by
    have h := sameSet_any M4 [⟨[5, 1], A4', 2, -1⟩, ⟨[5, 2], A5, 2, 1⟩] A4 A3 k4 2 w5 (HS4.out.step hb) (by rw [HL4.out]; decide) ⟨by simpa [rcells, IR.cells] using h3, fun x hx => by
      simp only [List.mem_cons, List.not_mem_nil, or_false] at hx
      rcases hx with rfl | rfl
      · exact ⟨h4, by simp⟩
      · exact ⟨h5, by simp⟩⟩ (by simp)
    rw [HI4.out, show its [⟨[5, 1], A4', 2, -1⟩, ⟨[5, 2], A5, 2, 1⟩] = [([5, 1], -1), ([5, 2], 1)] from rfl, decide_eq_true rfl] at h
    exact h)
  go_wp2_with fail
  -- STOP-d
  obtain ⟨wb, hwb⟩ : ∃ q : World, q = ((w4.alloc (.cells #[.int .i64 5, .int .i64 1] 3)).alloc (.cells #[.int .i64 5, .int .i64 2] 3)).alloc (.cells #[.slice (some ⟨w4.heap.size, 0, none⟩) 2 2, .int .i64 (-1), .slice (some ⟨w4.heap.size + 1, 0, none⟩) 2 2, .int .i64 1] 51) := ⟨_, rfl⟩
  have hbb : Below w4.heap.size w4 wb := by rw [hwb]; exact (((Below.refl _ _).alloc (Nat.le_refl _) _).alloc (by simp) _).alloc (by simp; omega) _
  have hc1 := HSS.out wb (some ⟨w4.heap.size + 1 + 1, 0, none⟩) (some ⟨w4.heap.size, 0, none⟩) (some ⟨w4.heap.size + 1, 0, none⟩) hbb
    (by rw [hwb]; exact Row.new' ((w4.alloc _).alloc _) _ _ (by simp) rfl (by simp)) (by rw [hwb]; exact ((Row.new' w4 _ _ rfl rfl (by simp)).alloc _).alloc _) (by rw [hwb]; exact (Row.new' (w4.alloc _) _ _ (by simp) rfl (by simp)).alloc _)
  rw [← hwb]
  clear hwb
  refine hc1.mono ?_
  rintro e w5 ⟨rfl, hb5⟩
  have HB5 := hid (HB4.out.trans ((hbb.trans (hb5.mono hbb.size)).mono HB4.out.size))
  clear hc1 hbb hb5 HSS HS4 HI4 HL4
  go_wp2
  go_ret
  exact ⟨rfl, HB5.out⟩
end Go.Proofs.YtldlmkfigjicgaaDoor
/- viewkeep.IncParts. -/
namespace Go.Proofs.YtldlmkfigjicgaaDoor
set_option linter.unusedVariables false
set_option linter.unusedSimpArgs false
open Go.ChangeShapes Go.WideShapes Go.ChangeAt Go.RowKit

theorem addX_len {a b : List It} {M : List IR} (h : addE a b = 0) (hM : its M = addX a b) : M.length ≤ 400 := by
  have h1 := done_set (addE_zero.1 h).2.2
  unfold addX at hM
  rw [if_pos h] at hM
  rw [← hM] at h1
  have := (setI_zero.1 h1).1
  rwa [its_len] at this
theorem SetIn.fed {w w' : World} {vp lo : Nat} {v : VR} {A : Option Addr} {k : Nat} {L : List IR} (h : SetIn w lo A k L) (hv : v.at_ w vp) (hg : w.grownBy w' (some vp)) : SetIn w' lo A k L := by
  have hst : ∀ T, T ≠ 70 → Stand T w w' := fun T hne => Stand.grown hg fun g cur d hc q => by
    injection q with q
    subst q
    have := hv.box
    unfold Blk at this
    rw [hc] at this
    injection this with this
    injection this with _ this _
    exact hne this
  exact h.stand (hst _ (by decide)) (hst _ (by decide)) hg.size
end Go.Proofs.YtldlmkfigjicgaaDoor
