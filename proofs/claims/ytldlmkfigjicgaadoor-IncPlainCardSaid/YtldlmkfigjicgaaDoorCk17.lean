/- IvH, IncS, IvI, IvJ, IvK, ZsH -/
import Derived.Test.YtldlmkfigjicgaaDoorCk14
import Derived.Laws.Rows
import Derived.Test.YtldlmkfigjicgaaDoorCk12
import Derived.Test.YtldlmkfigjicgaaDoorCk15
import Derived.Test.YtldlmkfigjicgaaDoorCk16
import Derived.Test.YtldlmkfigjicgaaDoorCk08
/- inc.View.fed. -/
namespace Go.Proofs.YtldlmkfigjicgaaDoor
set_option linter.unusedVariables false
set_option linter.unusedSimpArgs false
open Go.ChangeShapes Go.WideShapes Go.ChangeAt Go.RowKit

theorem results_pair {fn : Func} {p u : Tmp} (h : fn.results = #[.cell p 68, .tmp u]) (tmps : Array Value) (w : World) (g : Nat) (t : TypeId) (cs : Array Value) (fr : Nat × Nat)
    (hp : tmps.getD p undef = .pointer (some ⟨g, 0, none⟩)) (hg : w.heap[g]? = some (.cells cs t fr)) (hi : (Tryd.prog.info? 68).map (·.size) = some cs.size) :
    (results fn tmps).run Tryd.prog w = .ok (.tuple #[.agg cs, tmps.getD u undef]) w := by
  have hp' : tmps[p]?.getD undef = .pointer (some ⟨g, 0, none⟩) := by simpa using hp
  have hr := run_loadVar_row (P := Tryd.prog) w g t 68 cs fr _ hg Tryd.underlying68 rfl hi
  simp [results, h, hp', asAddr, hr]
theorem Stand.set {T T' : TypeId} {w : World} {b : Nat} {cs : Array Value} (hb : Blk w b cs T') (hT : T ≠ T') (i : Nat) (v : Value) : Stand T w (w.setCell ⟨b, i, none⟩ v) := Stand.grown (grown_setS w b i v) fun g cur d hc q => by
  injection q with q
  subst q
  unfold Blk at hb
  rw [hc] at hb
  injection hb with hb
  injection hb with _ hb _
  exact hT hb
theorem SetIn.set {w : World} {lo b : Nat} {A : Option Addr} {k : Nat} {L : List IR} {cs : Array Value} {T : TypeId} (h : SetIn w lo A k L) (hb : Blk w b cs T) (h1 : 51 ≠ T) (h2 : 3 ≠ T) (i : Nat) (v : Value) : SetIn (w.setCell ⟨b, i, none⟩ v) lo A k L :=
  h.stand (Stand.set hb h1 i v) (Stand.set hb h2 i v) (grown_setS w b i v).size
theorem ne_A1 : 51 ≠ 68 := by decide
theorem ne_A2 : 3 ≠ 68 := by decide
/-- What is wrong with tables that are fed. -/
def fedE (q : List St) (T0 T1 a b : List It) : Int := if basesE q a b ≠ 0 then basesE q a b else if addE T0 a ≠ 0 then addE T0 a else addE T1 b
def FedPost (q : List St) (T0 T1 a b : List It) (w : World) (e : Ending) (w' : World) : Prop :=
  Below w.heap.size w w' ∧ ∃ (Y0 Y1 : LR), e = .returned (.tuple #[.agg #[.slice Y0.A Y0.L.length Y0.k, .slice Y1.A Y1.L.length Y1.k], .int .i64 (fedE q T0 T1 a b)]) ∧
    (fedE q T0 T1 a b = 0 → its Y0.L = sumL (T0 ++ a) ∧ its Y1.L = sumL (T1 ++ b) ∧ SetIn w' w.heap.size Y0.A Y0.k Y0.L ∧ SetIn w' w.heap.size Y1.A Y1.k Y1.L)
theorem idx_zero (x0 x1 : Value) (w : World) : (Instr.index 68 (.agg #[x0, x1]) (.int .i64 0)).run Tryd.prog w = .ok x0 w := by kernel_rfl
theorem idx_one (x0 x1 : Value) (w : World) : (Instr.index 68 (.agg #[x0, x1]) (.int .i64 1)).run Tryd.prog w = .ok x1 w := by kernel_rfl
set_option maxHeartbeats 4000000 in
set_option maxRecDepth 100000 in
theorem fed_any (v : VR) (vp : Nat) (m0 m1 : LR) (w : World) (hv : v.at_ w vp) (h0 : RowI w w.heap.size m0.A m0.L) (h1 : RowI w w.heap.size m1.A m1.L) (l0 : m0.L.length ≤ 9223372036854775807) (l1 : m1.L.length ≤ 9223372036854775807)
    (lQ : v.Q.length ≤ 9223372036854775807) (lT0 : v.T0.L.length ≤ 9223372036854775807) (lT1 : v.T1.L.length ≤ 9223372036854775807) :
    Calls Tryd.prog 39 #[.pointer (some ⟨vp, 0, none⟩), .agg #[.slice m0.A m0.L.length m0.k, .slice m1.A m1.L.length m1.k]] w (FedPost (sts v.Q) (its v.T0.L) (its v.T1.L) (its m0.L) (its m1.L) w) := by
  have HBA := hid (fun w1 (hb : Below w.heap.size w w1) => bases_any v.Q m0.L m1.L v.qA m0.A m1.A v.qk m0.k m1.k w1 (hv.q.step hb) lQ (h0.step hb) l0 (h1.step hb) l1)
  have HA0 := hid (fun w1 (hb : Below w.heap.size w w1) => add_any v.T0.L m0.L v.T0.A m0.A v.T0.k m0.k w1 (hv.t0.step hb) lT0 (h0.step hb) l0)
  have HA1 := hid (fun w1 (hb : Below w.heap.size w w1) => add_any v.T1.L m1.L v.T1.A m1.A v.T1.k m1.k w1 (hv.t1.step hb) lT1 (h1.step hb) l1)
  have hvb := hv.box
  obtain ⟨Q, qA, qk, ⟨T0, tA0, tk0⟩, ⟨T1, tA1, tk1⟩, N, nA, nk⟩ := v
  obtain ⟨L0, A0, k0⟩ := m0
  obtain ⟨L1, A1, k1⟩ := m1
  simp only [VR.cells] at hvb HBA HA0 HA1 ⊢
  have HFE := hid (show fedE (sts Q) (its T0) (its T1) (its L0) (its L1) = if basesE (sts Q) (its L0) (its L1) ≠ 0 then basesE (sts Q) (its L0) (its L1) else if addE (its T0) (its L0) ≠ 0 then addE (its T0) (its L0) else addE (its T1) (its L1) from rfl)
  have HX0 := hid (show addE (its T0) (its L0) = 0 → addX (its T0) (its L0) = sumL (its T0 ++ its L0) from fun h => if_pos h)
  have HX1 := hid (show addE (its T1) (its L1) = 0 → addX (its T1) (its L1) = sumL (its T1 ++ its L1) from fun h => if_pos h)
  unfold FedPost
  obtain ⟨F, hF⟩ : ∃ f, f = fedE (sts Q) (its T0) (its T1) (its L0) (its L1) := ⟨_, rfl⟩
  obtain ⟨EB, hEB⟩ : ∃ f, f = basesE (sts Q) (its L0) (its L1) := ⟨_, rfl⟩
  obtain ⟨E0, hE0⟩ : ∃ f, f = addE (its T0) (its L0) := ⟨_, rfl⟩
  obtain ⟨E1, hE1⟩ : ∃ f, f = addE (its T1) (its L1) := ⟨_, rfl⟩
  rw [← hF] at HFE ⊢
  rw [← hEB] at HFE HBA
  rw [← hE0] at HFE HA0 HX0
  rw [← hE1] at HFE HA1 HX1
  clear hF hEB hE0 hE1 hv h0 h1
  obtain ⟨W, hW⟩ : ∃ W : World, W = ((w.alloc (.cells #[.slice A0 L0.length k0, .slice A1 L1.length k1] 68)).alloc (.cells #[.slice none 0 0, .slice none 0 0] 68)).alloc (.cells #[.slice none 0 0, .slice none 0 0] 68) := ⟨_, rfl⟩
  have HB := hid (show Below w.heap.size w W by rw [hW]; exact alloc_below (alloc_below (alloc_below (Below.refl _ _) _) _) _)
  have HM := hid (show Blk W w.heap.size #[.slice A0 L0.length k0, .slice A1 L1.length k1] 68 by rw [hW]; exact ((Blk.new _ _ _).alloc _).alloc _)
  have HR := hid (show Blk W (w.heap.size + 1) #[.slice none 0 0, .slice none 0 0] 68 by rw [hW]; exact (Blk.new' _ _ _ (by simp)).alloc _)
  have HO := hid (show Blk W (w.heap.size + 1 + 1) #[.slice none 0 0, .slice none 0 0] 68 by rw [hW]; exact Blk.new' _ _ _ (by simp))
  have HV := hid (hvb.step HB.out)
  have HVL := hid hvb.lt
  clear hvb
  go_enter Tryd.func39, Tryd.ntmps39
  go_upto_region 2 with fail
  -- STOP-a
  rw [← hW]
  clear hW
  obtain ⟨cHM, fHM, sHM, nHM⟩ := HM.out.all
  try simp only [cbox] at cHM
  obtain ⟨cHV, fHV, sHV, nHV⟩ := HV.out.all
  try simp only [cbox] at cHV
  refine region_tail 8 (by kernel_rfl) (by kernel_rfl) ?_
  simp only [List.take_succ_cons, List.take_zero, List.drop_succ_cons, List.drop_zero]
  repeat still_step
  refine wpStill_nil ?_
  go_wp2_with fail
  refine (HBA.out _ HB.out.drew).mono ?_
  rintro e w1 ⟨rfl, hb1⟩
  clear cHM fHM sHM nHM
  clear cHV fHV sHV nHV
  have hb1' : Below W.heap.size W w1 := Below.step' (Below.drew (Below.refl _ _)) hb1
  replace HM := hid (HM.out.step hb1')
  replace HR := hid (HR.out.step hb1')
  replace HO := hid (HO.out.step hb1')
  replace HV := hid (HV.out.step hb1')
  replace HB := hid (Below.step' HB.out hb1')
  clear hb1 hb1' HBA
  -- STOP-b
  by_cases hz : EB = 0
  rotate_left
  · have t1 : (EB != 0) = true := by simpa using hz
    have HE := hid (show F = EB by rw [HFE.out, if_pos hz])
    have HNZ := hid hz
    clear hz
    obtain ⟨cHO, fHO, sHO, nHO⟩ := HO.out.all
    try simp only [cbox] at cHO
    obtain ⟨cHR, fHR, sHR, nHR⟩ := HR.out.all
    try simp only [cbox] at cHR
    go_wp2_with fail
    -- STOP-c
    refine bodyPost_ret (results_pair rfl _ _ (w.heap.size + 1) _ #[.slice none 0 0, .slice none 0 0] (0, 0) rfl (((HR.out.set 0 _).set 1 _).eq rfl) (by kernel_rfl)) rfl ?_
    exact ⟨(HB.out.setCell (p := ⟨w.heap.size + 1, 0, none⟩) (by simp) _).setCell (p := ⟨w.heap.size + 1, 1, none⟩) (by simp) _, ⟨[], none, 0⟩, ⟨[], none, 0⟩, by rw [HE.out]; rfl, fun h => absurd (by rw [← HE.out]; exact h) HNZ.out⟩
  have HFE1 := hid (show F = if E0 ≠ 0 then E0 else E1 by rw [HFE.out, if_neg (by simp [hz])])
  subst hz
  clear HFE
  have hi0 := fun w1 => idx_zero (.slice A0 L0.length k0) (.slice A1 L1.length k1) w1
  have hi1 := fun w1 => idx_one (.slice A0 L0.length k0) (.slice A1 L1.length k1) w1
  obtain ⟨cHM, fHM, sHM, nHM⟩ := HM.out.all
  try simp only [cbox] at cHM
  go_wp2_with fail
  clear cHM fHM sHM nHM
  -- STOP-d
  refine wp_loop_rounds 3 ?_
  rw [rounds_succ]
  obtain ⟨cHV, fHV, sHV, nHV⟩ := HV.out.all
  try simp only [cbox] at cHV
  go_wp2_with fail
  -- STOP-e
  refine (HA0.out _ HB.out).mono ?_
  rintro e w2 ⟨Y0A, Y0k, Y0, rfl, hi2, ho2, hn2, hb2⟩
  clear cHV fHV sHV nHV
  have HS2 := hid (show SetIn w2 w.heap.size Y0A Y0k Y0 from SetIn.lo ⟨ho2, hn2⟩ HB.out.size)
  replace HR := hid (HR.out.step hb2)
  replace HO := hid (HO.out.step hb2)
  replace HV := hid (HV.out.step hb2)
  replace HB := hid (Below.step' HB.out hb2)
  have HI2 := hid hi2
  clear hb2 HA0 HM ho2 hn2 hi2
  by_cases hz : E0 = 0
  rotate_left
  · have t1 : (E0 != 0) = true := by simpa using hz
    have HE := hid (show F = E0 by rw [HFE1.out, if_pos hz])
    have HNZ := hid hz
    clear hz
    obtain ⟨cHO, fHO, sHO, nHO⟩ := HO.out.all
    try simp only [cbox] at cHO
    obtain ⟨cHR, fHR, sHR, nHR⟩ := HR.out.all
    try simp only [cbox] at cHR
    go_wp2_with fail
    refine bodyPost_ret (results_pair rfl _ _ (w.heap.size + 1) _ #[.slice none 0 0, .slice none 0 0] (0, 0) rfl (((HR.out.set 0 _).set 1 _).eq rfl) (by kernel_rfl)) rfl ?_
    exact ⟨(HB.out.setCell (p := ⟨w.heap.size + 1, 0, none⟩) (by simp) _).setCell (p := ⟨w.heap.size + 1, 1, none⟩) (by simp) _, ⟨[], none, 0⟩, ⟨[], none, 0⟩, by rw [HE.out]; rfl, fun h => absurd (by rw [← HE.out]; exact h) HNZ.out⟩
  have HFE2 := hid (show F = E1 by rw [HFE1.out, if_neg (by simp [hz])])
  have HI2' := hid (show its Y0 = sumL (its T0 ++ its L0) by rw [HI2.out]; exact HX0.out hz)
  subst hz
  clear HFE1 HX0 HI2
  obtain ⟨cHO, fHO, sHO, nHO⟩ := HO.out.all
  try simp only [cbox] at cHO
  go_wp2_with fail
  clear cHO fHO sHO nHO
  -- STOP-f
  obtain ⟨w3, hw3⟩ : ∃ q : World, q = w2.setCell ⟨w.heap.size + 1 + 1, 0, none⟩ (.slice Y0A Y0.length Y0k) := ⟨_, rfl⟩
  rw [← hw3]
  have HS3 := hid (show SetIn w3 w.heap.size Y0A Y0k Y0 by rw [hw3]; exact HS2.out.set HO.out ne_A1 ne_A2 _ _)
  have HO3 := hid (show Blk w3 (w.heap.size + 1 + 1) #[.slice Y0A Y0.length Y0k, .slice none 0 0] 68 by rw [hw3]; exact (HO.out.set 0 _).eq rfl)
  have HR3 := hid (show Blk w3 (w.heap.size + 1) #[.slice none 0 0, .slice none 0 0] 68 by rw [hw3]; exact HR.out.other (by simp) _)
  have HB3 := hid (show Below w.heap.size w w3 by rw [hw3]; exact HB.out.setCell (p := ⟨w.heap.size + 1 + 1, 0, none⟩) (by simp; omega) _)
  have HV3 := hid (show Blk w3 vp #[.slice qA Q.length qk, .slice tA0 T0.length tk0, .slice tA1 T1.length tk1, .slice nA N.length nk] 70 by rw [hw3]; exact HV.out.other (by have := HVL.out; simp; omega) _)
  clear hw3 HS2 HO HR HB HV
  rw [rounds_succ]
  obtain ⟨cHV3, fHV3, sHV3, nHV3⟩ := HV3.out.all
  try simp only [cbox] at cHV3
  go_wp2_with fail
  -- STOP-g
  refine (HA1.out _ HB3.out).mono ?_
  rintro e w4 ⟨Y1A, Y1k, Y1, rfl, hi2, ho2, hn2, hb2⟩
  clear cHV3 fHV3 sHV3 nHV3
  have HS4 := hid (show SetIn w4 w.heap.size Y1A Y1k Y1 from SetIn.lo ⟨ho2, hn2⟩ HB3.out.size)
  replace HR3 := hid (HR3.out.step hb2)
  replace HO3 := hid (HO3.out.step hb2)
  replace HS3 := hid (HS3.out.step hb2)
  replace HB3 := hid (Below.step' HB3.out hb2)
  have HI4 := hid hi2
  clear hb2 HA1 ho2 hn2 hi2
  by_cases hz : E1 = 0
  rotate_left
  · have t1 : (E1 != 0) = true := by simpa using hz
    have HE := hid HFE2.out
    have HNZ := hid hz
    clear hz
    obtain ⟨cHO3, fHO3, sHO3, nHO3⟩ := HO3.out.all
    try simp only [cbox] at cHO3
    obtain ⟨cHR3, fHR3, sHR3, nHR3⟩ := HR3.out.all
    try simp only [cbox] at cHR3
    go_wp2_with fail
    refine bodyPost_ret (results_pair rfl _ _ (w.heap.size + 1) _ #[.slice Y0A Y0.length Y0k, .slice none 0 0] (0, 0) rfl (((HR3.out.set 0 _).set 1 _).eq rfl) (by kernel_rfl)) rfl ?_
    exact ⟨(HB3.out.setCell (p := ⟨w.heap.size + 1, 0, none⟩) (by simp) _).setCell (p := ⟨w.heap.size + 1, 1, none⟩) (by simp) _, ⟨Y0, Y0A, Y0k⟩, ⟨[], none, 0⟩, by rw [HE.out]; rfl, fun h => absurd (by rw [← HE.out]; exact h) HNZ.out⟩
  have HI4' := hid (show its Y1 = sumL (its T1 ++ its L1) by rw [HI4.out]; exact HX1.out hz)
  subst hz
  clear HX1 HI4
  obtain ⟨cHO3, fHO3, sHO3, nHO3⟩ := HO3.out.all
  try simp only [cbox] at cHO3
  go_wp2_with fail
  clear cHO3 fHO3 sHO3 nHO3
  -- STOP-h
  obtain ⟨w5, hw5⟩ : ∃ q : World, q = w4.setCell ⟨w.heap.size + 1 + 1, 1, none⟩ (.slice Y1A Y1.length Y1k) := ⟨_, rfl⟩
  rw [← hw5]
  have HS5 := hid (show SetIn w5 w.heap.size Y0A Y0k Y0 by rw [hw5]; exact HS3.out.set HO3.out ne_A1 ne_A2 _ _)
  have HS6 := hid (show SetIn w5 w.heap.size Y1A Y1k Y1 by rw [hw5]; exact HS4.out.set HO3.out ne_A1 ne_A2 _ _)
  have HO5 := hid (show Blk w5 (w.heap.size + 1 + 1) #[.slice Y0A Y0.length Y0k, .slice Y1A Y1.length Y1k] 68 by rw [hw5]; exact (HO3.out.set 1 _).eq rfl)
  have HR5 := hid (show Blk w5 (w.heap.size + 1) #[.slice none 0 0, .slice none 0 0] 68 by rw [hw5]; exact HR3.out.other (by simp) _)
  have HB5 := hid (show Below w.heap.size w w5 by rw [hw5]; exact HB3.out.setCell (p := ⟨w.heap.size + 1 + 1, 1, none⟩) (by simp; omega) _)
  clear hw5 HS3 HS4 HO3 HR3 HB3 HV3
  rw [rounds_succ]
  obtain ⟨cHO5, fHO5, sHO5, nHO5⟩ := HO5.out.all
  try simp only [cbox] at cHO5
  obtain ⟨cHR5, fHR5, sHR5, nHR5⟩ := HR5.out.all
  try simp only [cbox] at cHR5
  go_wp2_with fail
  -- STOP-i
  refine bodyPost_ret (results_pair rfl _ _ (w.heap.size + 1) _ #[.slice Y0A Y0.length Y0k, .slice Y1A Y1.length Y1k] (0, 0) rfl (((HR5.out.set 0 _).set 1 _).eq rfl) (by kernel_rfl)) rfl ?_
  have hr6 := HR5.out.set 0 (.slice Y0A Y0.length Y0k)
  refine ⟨(HB5.out.setCell (p := ⟨w.heap.size + 1, 0, none⟩) (by simp) _).setCell (p := ⟨w.heap.size + 1, 1, none⟩) (by simp) _, ⟨Y0, Y0A, Y0k⟩, ⟨Y1, Y1A, Y1k⟩, by rw [HFE2.out]; rfl, fun _ => ⟨HI2'.out, HI4'.out, ?_, ?_⟩⟩
  · exact (HS5.out.set HR5.out ne_A1 ne_A2 _ _).set hr6 ne_A1 ne_A2 _ _
  · exact (HS6.out.set HR5.out ne_A1 ne_A2 _ _).set hr6 ne_A1 ne_A2 _ _
end Go.Proofs.YtldlmkfigjicgaaDoor
/- Views: a turn, step by step. No program in sight. -/
namespace Go.Proofs.YtldlmkfigjicgaaDoor
set_option linter.unusedVariables false
set_option linter.unusedSimpArgs false

theorem More.tab {T a : List It} : More a T (sumL (T ++ a)) := fun r => by
  have h := More.self T a r
  rw [h]
  exact wt_app (fun r => (wt_sumL (T ++ a) r).symm) (fun r => rfl) r
/-- A turn that has come to step i. -/
structure TP (v : VS) (a b : List It) (W : List Int) (i : Nat) (N D : List (List It)) : Prop where
  len : N.length = i
  d : D = dl v.S N
  g : setsG (sumL (v.T0 ++ a)) (sumL (v.T1 ++ b)) v.q [] = setsG (sumL (v.T0 ++ a)) (sumL (v.T1 ++ b)) (v.q.drop i) N
  o : OkOut N (W.take i)
theorem TP.start (v : VS) (a b : List It) (W : List Int) : TP v a b W 0 [] [] := ⟨rfl, by unfold dl; simp, rfl, okOut_nil⟩
theorem okOut_strict {N : List (List It)} {W : List Int} (h : OkOut N W) (j : Nat) : Strict (N.getD j []) := by
  by_cases hj : j < N.length
  · exact (setI_zero.1 (h.2 j hj).1).2.2
  · rw [List.getD_eq_getElem?_getD, List.getElem?_eq_none (by omega)]; trivial
section
variable {v : VS} {a b : List It} {W : List Int} {i : Nat} {N D : List (List It)}
theorem TP.ref (hv : v.ok) (hW : widsL v.q [] = some W) (hi : i < v.q.length) (hk : v.q[i].kind ≠ 1) : 0 ≤ v.q[i].a ∧ v.q[i].a.toNat < i ∧ 0 ≤ v.q[i].b ∧ v.q[i].b.toNat < i := refs_lt hW i hi hk
theorem TP.set_eq (h : TP v a b W i N D) (hv : v.ok) (hW : widsL v.q [] = some W) (hi : i < v.q.length) :
    sumL (mAt a b v.q[i] v.S D) = subL (v.S.getD i []) (sumL (v.S.getD i [] ++ sumL (mAt a b v.q[i] v.S D))) ∧ sumL (v.S.getD i [] ++ sumL (mAt a b v.q[i] v.S D)) = sumL (atL (sumL (v.T0 ++ a)) (sumL (v.T1 ++ b)) v.q[i] N) := by
  have hf := hv.fix
  have hSl : v.S.length = v.q.length := hf.1
  have hS := (hf.2 i hi).1
  have ht := turn_step (ta := v.T0) (tb := v.T1) (ma := a) (mb := b) (ta' := sumL (v.T0 ++ a)) (tb' := sumL (v.T1 ++ b)) More.tab More.tab (s := v.q[i]) (S := v.S) (N := N)
    (fun hk => by have := refs_lt hW i hi hk; rw [h.len]; exact ⟨this.2.1, this.2.2.2⟩) (fun j => hf.strict j) (fun j => okOut_strict h.o j) (by rw [h.len]; omega) (X := mAt a b v.q[i] v.S (dl v.S N)) (fun r => rfl)
  rw [h.d, hS, ht.2]
  exact ⟨ht.1, rfl⟩
theorem TP.next (h : TP v a b W i N D) (hv : v.ok) (hW : widsL v.q [] = some W) (hi : i < v.q.length) (ha : ∀ x ∈ a, x.1.length = 4) (hb : ∀ x ∈ b, x.1.length = 4) (h0 : doneE (sumL (v.S.getD i [] ++ sumL (mAt a b v.q[i] v.S D))) = 0) :
    TP v a b W (i + 1) (N ++ [sumL (v.S.getD i [] ++ sumL (mAt a b v.q[i] v.S D))]) (D ++ [sumL (mAt a b v.q[i] v.S D)]) := by
  obtain ⟨e1, e2⟩ := h.set_eq hv hW hi
  have hSl : v.S.length = v.q.length := hv.fix.1
  have hWl := (widsL_len hW).1
  simp only [List.length_nil, Nat.zero_add] at hWl
  have hst := refs_of hW i hi
  simp only [List.length_nil, Nat.zero_add] at hst
  have hcons : v.q.drop i = v.q[i] :: v.q.drop (i + 1) := (List.drop_eq_getElem_cons hi)
  refine ⟨by rw [List.length_append, h.len]; rfl, ?_, ?_, ?_⟩
  · rw [dl_snoc (by rw [h.len]; omega), ← h.d, h.len, ← e1]
  · rw [h.g, hcons, setsG, ← e2, if_neg (fun q => q h0)]
  · rw [List.take_succ_eq_append_getElem (by omega)]
    have hWi : stW v.q[i] (W.take i) = W[i]'(by omega) := by
      have h1 := widsL_step hW i hi
      exact h1
    rw [← hWi]
    refine h.o.snoc (done_set h0) fun x hx => ?_
    obtain ⟨y, hy, e⟩ := sumL_mem (by rw [e2] at hx; exact hx)
    rw [← e]
    exact atL_wide hst h.o (sum_wide hv.w0 ha) (sum_wide hv.w1 hb) y hy
theorem TP.stop (h : TP v a b W i N D) (hv : v.ok) (hW : widsL v.q [] = some W) (hi : i < v.q.length) (h0 : doneE (sumL (v.S.getD i [] ++ sumL (mAt a b v.q[i] v.S D))) ≠ 0) :
    (setsG (sumL (v.T0 ++ a)) (sumL (v.T1 ++ b)) v.q []).1 = doneE (sumL (v.S.getD i [] ++ sumL (mAt a b v.q[i] v.S D))) := by
  obtain ⟨e1, e2⟩ := h.set_eq hv hW hi
  rw [h.g, List.drop_eq_getElem_cons hi, setsG, ← e2, if_pos h0]
theorem TP.done (h : TP v a b W v.q.length N D) : setsG (sumL (v.T0 ++ a)) (sumL (v.T1 ++ b)) v.q [] = (0, N) := by rw [h.g, List.drop_length, setsG]
end
end Go.Proofs.YtldlmkfigjicgaaDoor
/- inc.View.Feed: what its steps ask; what stands while one block turns. -/
namespace Go.Proofs.YtldlmkfigjicgaaDoor
set_option linter.unusedVariables false
set_option linter.unusedSimpArgs false
open Go.ChangeShapes Go.WideShapes Go.ChangeAt Go.RowKit

/-- Rows of one width, in their bounds. -/
def FitL (V : Int) (L : List It) : Prop := ∀ y ∈ L, (y.1.length : Int) = V ∧ y.1.length ≤ 8 ∧ (∀ z ∈ y.1, -1073741824 ≤ z ∧ z ≤ 1073741824) ∧ -2097152 ≤ y.2 ∧ y.2 ≤ 2097152
theorem fit_set {V : Int} {L : List It} (hs : setI L = 0) (hw : ∀ x ∈ L, (x.1.length : Int) = V) : FitL V L := fun y hy => by
  have := badB_bound ((setI_zero.1 hs).2.1 y hy)
  exact ⟨hw y hy, this.1, this.2.1, by omega, by omega⟩
theorem fit_sub {V : Int} {S N : List It} (hs : setI S = 0) (hw : ∀ x ∈ S, (x.1.length : Int) = V) (hn : setI N = 0) (hwn : ∀ x ∈ N, (x.1.length : Int) = V) : FitL V (subL S N) := fun y hy => by
  obtain ⟨⟨z, hz, e⟩, h1, h2, h3⟩ := (subL_bound hs hn).2 y hy
  refine ⟨?_, h1, h2, h3⟩
  rw [← e]
  exact hz.elim (hw z) (hwn z)
theorem take_getD {W : List Int} {i j : Nat} (h : j < i) : (W.take i).getD j 0 = W.getD j 0 := by
  rw [List.getD_eq_getElem?_getD, List.getD_eq_getElem?_getD, List.getElem?_take, if_pos h]
theorem moreOk_gen {s : St} {V : List Int} (hst : stW s V ≠ 0) (hk : s.kind ≠ 1) {A B a b : List It} (fA : FitL (V.getD s.a.toNat 0) A) (fB : FitL (V.getD s.b.toNat 0) B) (fa : FitL (V.getD s.a.toNat 0) a) (fb : FitL (V.getD s.b.toNat 0) b)
    (sA : Strict A) (la : a.length ≤ 800) (lb : b.length ≤ 800) (lA : A.length ≤ 400) (lB : B.length ≤ 400) : MoreOk s A B a b := by
  rcases stW_ok hst with ⟨k1, -⟩ | ⟨a0, a1, b0, b1, hkk⟩
  · exact absurd k1 hk
  · refine ⟨⟨fun k2 => ?_, fun k3 => ?_, fun k6 y hy => (fb y hy).2.2.2⟩, fun k4 => ?_, fun _ => sA, fun k89 => ?_, la, lb, lA, lB⟩
    · rcases hkk with ⟨q, hk⟩ | ⟨q, hk⟩ | ⟨q, hk⟩ | ⟨q, hk⟩ | q | ⟨q, hk⟩ | ⟨q, hk⟩ <;> try omega
      exact ⟨hk.1, fun y hy => by have := (fa y hy).1; omega⟩
    · rcases hkk with ⟨q, hk⟩ | ⟨q, hk⟩ | ⟨q, hk⟩ | ⟨q, hk⟩ | q | ⟨q, hk⟩ | ⟨q, hk⟩ <;> try omega
      exact ⟨hk.1, fun n hn => ⟨(hk.2 n hn).1, fun y hy => by have := (fa y hy).1; have := (hk.2 n hn).2; omega⟩⟩
    · rcases hkk with ⟨q, hk⟩ | ⟨q, hk⟩ | ⟨q, hk⟩ | ⟨q, hk⟩ | q | ⟨q, hk⟩ | ⟨q, hk⟩ <;> try omega
      have hJ : ∀ {X Y : List It}, FitL (V.getD s.a.toNat 0) X → FitL (V.getD s.b.toNat 0) Y → JoinOk s X Y := fun fX fY =>
        ⟨hk.1, hk.2.2.1, fun y hy => ⟨by have := (fX y hy).1; omega, (fX y hy).2⟩, fun y hy => ⟨by have := (fY y hy).1; omega, (fY y hy).2⟩⟩
      exact ⟨hJ fa fB, hJ fA fb, hJ fa fb⟩
    · rcases hkk with ⟨q, hk⟩ | ⟨q, hk⟩ | ⟨q, hk⟩ | ⟨q, hk⟩ | q | ⟨q, hk⟩ | ⟨q, hk⟩ <;> try omega
      · exact ⟨hk.1, fun k9 => by omega, fun y hy => ⟨by have := (fa y hy).1; omega, fun k9 => by omega, (fa y hy).2.2⟩⟩
      · exact ⟨hk.1, fun k9 => hk.2.2.1, fun y hy => ⟨by have := (fa y hy).1; omega, fun k9 => by have := (fa y hy).1; omega, (fa y hy).2.2⟩⟩
theorem moreL_row {s : St} {A B a b : List It} (hl : s.list.length ≤ 8) (hA : ∀ y ∈ A, y.1.length ≤ 8) (hB : ∀ y ∈ B, y.1.length ≤ 8) (ha : ∀ y ∈ a, y.1.length ≤ 8) (hb : ∀ y ∈ b, y.1.length ≤ 8) : ∀ y ∈ moreL s A B a b, y.1.length ≤ 16 := by
  have hjoin : ∀ {X Y : List It}, (∀ y ∈ X, y.1.length ≤ 8) → (∀ y ∈ Y, y.1.length ≤ 8) → ∀ y ∈ joinL s X Y, y.1.length ≤ 16 := fun hX hY y hy => by
    obtain ⟨x, hx, hy⟩ := List.mem_flatMap.1 hy
    obtain ⟨z, hz, rfl⟩ := List.mem_map.1 hy
    have := hX x hx
    have := hY z (List.mem_filter.1 hz).1
    simp only [List.length_append]; omega
  intro y hy
  unfold moreL at hy
  split at hy
  · unfold linL at hy
    split at hy
    · have := ha y (List.mem_filter.1 hy).1; omega
    · split at hy
      · obtain ⟨x, hx, rfl⟩ := List.mem_map.1 hy
        simp only [pickR, List.length_map]; omega
      · split at hy
        · rcases List.mem_append.1 hy with h | h
          · have := ha y h; omega
          · have := hb y h; omega
        · split at hy
          · rcases List.mem_append.1 hy with h | h
            · have := ha y h; omega
            · obtain ⟨x, hx, rfl⟩ := List.mem_map.1 h
              have := hb x hx; simp only; omega
          · simp at hy
  · split at hy
    · rcases List.mem_append.1 hy with h | h
      · rcases List.mem_append.1 h with h | h
        · exact hjoin ha hB y h
        · exact hjoin hA hb y h
      · exact hjoin ha hb y h
    · split at hy
      · obtain ⟨x, hx, rfl⟩ := List.mem_map.1 hy
        have := ha x (List.mem_filter.1 hx).1; simp only; omega
      · split at hy
        · obtain ⟨k, hk, hy⟩ := List.mem_flatMap.1 hy
          have ht : ∀ n m, ∀ z ∈ toldL s k n m, z.1.length ≤ 16 := fun n m z hz => by
            unfold toldL at hz
            split at hz
            · simp at hz
            · rw [List.mem_singleton.1 hz]; simp
          rcases List.mem_append.1 hy with h | h
          · obtain ⟨x, hx, rfl⟩ := List.mem_map.1 h
            exact ht _ _ x hx
          · exact ht _ _ y h
        · simp at hy
section
variable {v : VS} {a b : List It} {W : List Int} {i : Nat} {N D : List (List It)}
theorem TP.fits (h : TP v a b W i N D) (hv : v.ok) (hW : widsL v.q [] = some W) (hi : i < v.q.length) {j : Nat} (hj : j < i) :
    FitL ((W.take i).getD j 0) (v.S.getD j []) ∧ FitL ((W.take i).getD j 0) (D.getD j []) ∧ Strict (v.S.getD j []) ∧ (v.S.getD j []).length ≤ 400 ∧ (D.getD j []).length ≤ 800 ∧ D.getD j [] = subL (v.S.getD j []) (N.getD j []) := by
  have hSl : v.S.length = v.q.length := hv.fix.1
  have ho := hv.out hW
  have hjS : j < v.S.length := by omega
  have hjN : j < N.length := by rw [h.len]; exact hj
  obtain ⟨s1, w1⟩ := ho.2 j hjS
  obtain ⟨s2, w2⟩ := h.o.2 j hjN
  rw [← take_getD hj] at w1
  have hd : D.getD j [] = subL (v.S.getD j []) (N.getD j []) := by rw [h.d]; exact dl_at (by rw [h.len]; omega) hjN
  refine ⟨fit_set s1 w1, ?_, (setI_zero.1 s1).2.2, (setI_zero.1 s1).1, ?_, hd⟩
  · rw [hd]; exact fit_sub s1 w1 s2 w2
  · rw [hd]; exact (subL_bound s1 s2).1
theorem TP.moreOk (h : TP v a b W i N D) (hv : v.ok) (hW : widsL v.q [] = some W) (hi : i < v.q.length) (hk : v.q[i].kind ≠ 1) :
    MoreOk v.q[i] (v.S.getD v.q[i].a.toNat []) (v.S.getD v.q[i].b.toNat []) (D.getD v.q[i].a.toNat []) (D.getD v.q[i].b.toNat []) := by
  have hst := refs_of hW i hi
  simp only [List.length_nil, Nat.zero_add] at hst
  obtain ⟨-, ra, -, rb⟩ := refs_lt hW i hi hk
  obtain ⟨f1, f2, f3, f4, f5, -⟩ := h.fits hv hW hi ra
  obtain ⟨g1, g2, g3, g4, g5, -⟩ := h.fits hv hW hi rb
  exact moreOk_gen hst hk f1 g1 f2 g2 f3 f5 g5 f4 g4
theorem TP.row (h : TP v a b W i N D) (hv : v.ok) (hW : widsL v.q [] = some W) (hi : i < v.q.length) (ha : ∀ x ∈ a, x.1.length = 4) (hb : ∀ x ∈ b, x.1.length = 4) : ∀ y ∈ mAt a b v.q[i] v.S D, y.1.length ≤ 1048576 := by
  have hst := refs_of hW i hi
  simp only [List.length_nil, Nat.zero_add] at hst
  unfold mAt
  by_cases k1 : v.q[i].kind = 1
  · rw [if_pos k1]
    intro y hy
    split at hy
    · rw [ha y hy]; omega
    · rw [hb y hy]; omega
  · rw [if_neg k1]
    obtain ⟨-, ra, -, rb⟩ := refs_lt hW i hi k1
    obtain ⟨f1, f2, -⟩ := h.fits hv hW hi ra
    obtain ⟨g1, g2, -⟩ := h.fits hv hW hi rb
    intro y hy
    have := moreL_row (stW_list hst) (fun y hy => (f1 y hy).2.1) (fun y hy => (g1 y hy).2.1) (fun y hy => (f2 y hy).2.1) (fun y hy => (g2 y hy).2.1) y hy
    omega
theorem TP.grp (h : TP v a b W i N D) (hv : v.ok) (hW : widsL v.q [] = some W) (hi : i < v.q.length) (hk : v.q[i].kind = 8 ∨ v.q[i].kind = 9) (k : Int) :
    wrp (grpN v.q[i] (v.S.getD v.q[i].a.toNat []) k + grpN v.q[i] (D.getD v.q[i].a.toNat []) k) = grpN v.q[i] (N.getD v.q[i].a.toNat []) k ∧ wrp (grpS v.q[i] (v.S.getD v.q[i].a.toNat []) k + grpS v.q[i] (D.getD v.q[i].a.toNat []) k) = grpS v.q[i] (N.getD v.q[i].a.toNat []) k := by
  obtain ⟨-, ra, -, -⟩ := refs_lt hW i hi (by omega)
  obtain ⟨-, -, -, -, -, hd⟩ := h.fits hv hW hi ra
  rw [hd]
  exact grp_more (subL_more _ _) k
end
theorem kind_of {s : St} {V : List Int} (h : stW s V ≠ 0) : (s.kind = 1 ∧ (s.a = 0 ∨ s.a = 1)) ∨ (s.kind ≠ 1 ∧ 2 ≤ s.kind ∧ s.kind ≤ 9) := by
  rcases stW_ok h with h | ⟨-, -, -, -, hk⟩
  · exact .inl h
  · right
    rcases hk with ⟨q, -⟩ | ⟨q, -⟩ | ⟨q, -⟩ | ⟨q, -⟩ | q | ⟨q, -⟩ | ⟨q, -⟩ <;> omega
end Go.Proofs.YtldlmkfigjicgaaDoor
/- inc.View.Feed, All. -/
namespace Go.Proofs.YtldlmkfigjicgaaDoor
set_option linter.unusedVariables false
set_option linter.unusedSimpArgs false
open Go.ChangeShapes Go.WideShapes Go.ChangeAt Go.RowKit

theorem feedE_fed (v : VS) (a b : List It) : v.feedE a b = if fedE v.q v.T0 v.T1 a b ≠ 0 then fedE v.q v.T0 v.T1 a b else (setsG (sumL (v.T0 ++ a)) (sumL (v.T1 ++ b)) v.q []).1 := by
  unfold VS.feedE fedE
  by_cases h1 : basesE v.q a b = 0 <;> by_cases h2 : addE v.T0 a = 0 <;> by_cases h3 : addE v.T1 b = 0 <;> simp [h1, h2, h3]
theorem fedE_zero {q : List St} {T0 T1 a b : List It} (h : fedE q T0 T1 a b = 0) : basesE q a b = 0 ∧ addE T0 a = 0 ∧ addE T1 b = 0 := by
  unfold fedE at h
  by_cases h1 : basesE q a b = 0 <;> by_cases h2 : addE T0 a = 0 <;> simp [h1, h2] at h <;> simp [h1, h2, h]
theorem grown_some {w w' : World} (h : w.grownBy w' none) (r : Option Nat) : w.grownBy w' r := ⟨h.os, h.tape, h.output, h.size, fun k hk _ => h.block k hk (by simp)⟩
/-- What a meal leaves. -/
def FeedPost (v : VR) (vp : Nat) (AV : Nat → Prop) (a b : List It) (w : World) (e : Ending) (w' : World) : Prop :=
  ∃ (A : Option Addr) (k : Nat) (M : List IR), e = .returned (.tuple #[.slice A M.length k, .int .i64 (v.vs.feedE a b)]) ∧ its M = v.vs.more a b ∧ SetIn w' w.heap.size A k M ∧ w.grownBy w' (some vp) ∧
    ∃ v' : VR, v'.at_ w' vp ∧ v'.vs = v.vs.fed a b ∧ v'.off AV ∧ v'.Q = v.Q ∧ v'.qA = v.qA ∧ v'.qk = v.qk
theorem feedPost_bad {v : VR} {vp : Nat} {AV : Nat → Prop} {a b : List It} {w w' : World} {E : Int} (hE : v.vs.feedE a b = E) (hz : E ≠ 0) (hv : v.at_ w vp) (ho : v.off AV) (hb : Below w.heap.size w w') : FeedPost v vp AV a b w (.returned (.tuple #[.slice none 0 0, .int .i64 E])) w' := by
  refine ⟨none, 0, [], by rw [hE]; rfl, ?_, SetIn.nil _ _, grown_some (grown_of_below hb) _, v, hv.step hb, ?_, ho, rfl, rfl, rfl⟩
  · unfold VS.more; rw [if_neg (by rw [hE]; exact hz)]; rfl
  · unfold VS.fed; rw [if_neg (by rw [hE]; exact hz)]
theorem vs_at {v : VR} {i : Nat} (h : i < v.Q.length) : v.vs.q[i]'(by simpa [VR.vs] using h) = v.Q[i].st := by simp [VR.vs]
theorem feed_step (v : VR) (vp tb : Nat) (m0 m1 : LR) (W : List Int) (D : List LR) (X : List NR) (dA xA : Option Addr) (dk xk : Nat) (W0 wr : World) (hv : v.at_ W0 vp) (hok : v.vs.ok) (hW : widsL v.vs.q [] = some W) (hbs : basesE v.vs.q (its m0.L) (its m1.L) = 0)
    (hT : TurnAt wr W0.heap.size tb vp v.Q dA dk D xA xk X (boxD dA dk D) (boxX xA xk X)) (hB : Below W0.heap.size W0 wr) (hP : TP v.vs (its m0.L) (its m1.L) W D.length (nsets X) (D.map (fun y => its y.L))) (hX : X.length = D.length) (hi : D.length < v.Q.length)
    (r0 : RowI W0 W0.heap.size m0.A m0.L) (r1 : RowI W0 W0.heap.size m1.A m1.L) :
    Calls Tryd.prog 40 #[.pointer (some ⟨tb, 0, none⟩), .int .i64 (D.length : Int), .agg #[.slice m0.A m0.L.length m0.k, .slice m1.A m1.L.length m1.k]] wr
      (StepPost v W0 tb vp D X (sumL (mAt (its m0.L) (its m1.L) v.Q[D.length].st (nsets v.N) (D.map (fun y => its y.L)))) (sumL ((nsets v.N).getD D.length [] ++ sumL (mAt (its m0.L) (its m1.L) v.Q[D.length].st (nsets v.N) (D.map (fun y => its y.L))))) wr) := by
  have hi' : D.length < v.vs.q.length := by simpa [VR.vs] using hi
  have hq8 := (hok.wids).choose_spec.2.2.2
  have hNl : v.Q.length = v.N.length := by
    have := hok.fix.1
    simpa [VR.vs] using this.symm
  have hst := refs_of hW D.length hi'
  rw [vs_at hi] at hst
  obtain ⟨-, a1, a2, a3, a4⟩ := basesE_zero.1 hbs
  have hkind := kind_of hst
  refine tstep_any v vp tb D.length v.Q[D.length] m0 m1 D X dA xA dk xk W0 wr hv hB hT r0 r1 rfl hX hi hNl (by simpa [VR.vs] using hq8) rfl (fun k1 => ?_) (fun k1 => ?_) (fun k1 => ?_) (fun j h2 hk => ?_) (fun hk k => ?_) ?_ ?_ ?_ ?_ (fun y hy => ?_)
  · rcases hkind with h | h
    · exact h.2
    · exact absurd k1 h.1
  · have hr := refs_lt hW D.length hi' (by rw [vs_at hi]; exact k1)
    rw [vs_at hi] at hr
    rcases hkind with h | h
    · exact absurd h.1 k1
    · exact ⟨h.2.1, h.2.2, hr⟩
  · have := hP.moreOk hok hW hi' (by rw [vs_at hi]; exact k1)
    rw [vs_at hi] at this
    exact this
  · have hr := refs_lt hW j (by simpa [VR.vs] using h2) (by rw [vs_at h2]; omega)
    rw [vs_at h2] at hr
    exact hr.2.1
  · have := hP.grp hok hW hi' (by rw [vs_at hi]; exact hk) k
    rw [vs_at hi] at this
    exact this
  · have := set_len a1; rwa [its_len] at this
  · have := set_len a2; rwa [its_len] at this
  · exact set_len (hok.fix.set D.length)
  · have := hP.row hok hW hi' a3 a4
    rw [vs_at hi] at this
    exact this
  · have := (badB_bound ((setI_zero.1 (hok.fix.set D.length)).2.1 y hy)).1
    omega
theorem feed_two (v : VR) (a b : List It) (W : List Int) (D : List LR) (X : List NR) (hok : v.vs.ok) (hW : widsL v.vs.q [] = some W) (hbs : basesE v.vs.q a b = 0) (hP : TP v.vs a b W D.length (nsets X) (D.map (fun y => its y.L))) (hi : D.length < v.Q.length) {l S : List It}
    (hl : l = sumL (mAt a b v.Q[D.length].st (nsets v.N) (D.map (fun y => its y.L)))) (hS : S = sumL ((nsets v.N).getD D.length [] ++ l)) :
    (doneE S = 0 → TP v.vs a b W (D.length + 1) (nsets X ++ [S]) (D.map (fun y => its y.L) ++ [l])) ∧ (doneE S ≠ 0 → (setsG (sumL (v.vs.T0 ++ a)) (sumL (v.vs.T1 ++ b)) v.vs.q []).1 = doneE S) := by
  have hi' : D.length < v.vs.q.length := by simpa [VR.vs] using hi
  obtain ⟨-, -, -, b4, b5⟩ := basesE_zero.1 hbs
  have h1 := hP.next hok hW hi' b4 b5
  have h2 := hP.stop hok hW hi'
  rw [vs_at hi] at h1 h2
  have e1 : sumL (mAt a b v.Q[D.length].st v.vs.S (D.map (fun y => its y.L))) = l := hl.symm
  rw [e1] at h1 h2
  have e2 : sumL (v.vs.S.getD D.length [] ++ l) = S := hS.symm
  rw [e2] at h1 h2
  exact ⟨h1, h2⟩
theorem grown_drew {w w' : World} {r : Option Nat} (h : w.grownBy w' r) : w.grownBy w'.drew r := ⟨h.os, h.tape, h.output, h.size, h.block⟩
theorem feed_done {v : VR} {vp tb lo : Nat} {AV : Nat → Prop} {a b : List It} {W : List Int} {w wo W6 : World} {D : List LR} {X : List NR} {dA xA : Option Addr} {dk xk : Nat} {Y0 Y1 : LR}
    (hv : v.at_ wo vp) (ho : v.off AV) (hav : AV vp) (hAV : ∀ b, AV b → b < w.heap.size) (hE : v.vs.feedE a b = 0)
    (hT : TurnAt wo lo tb vp v.Q dA dk D xA xk X (boxD dA dk D) (boxX xA xk X)) (hlo : w.heap.size ≤ lo) (hP : TP v.vs a b W D.length (nsets X) (D.map (fun y => its y.L))) (hD : D.length = v.Q.length)
    (y0 : SetIn wo w.heap.size Y0.A Y0.k Y0.L) (y1 : SetIn wo w.heap.size Y1.A Y1.k Y1.L) (i0 : its Y0.L = sumL (its v.T0.L ++ a)) (i1 : its Y1.L = sumL (its v.T1.L ++ b))
    (hg : wo.grownBy W6 (some vp)) (hb : Blk W6 vp #[.slice v.qA v.Q.length v.qk, .slice Y0.A Y0.L.length Y0.k, .slice Y1.A Y1.L.length Y1.k, .slice xA X.length xk] 70) :
    ((⟨v.Q, v.qA, v.qk, Y0, Y1, X, xA, xk⟩ : VR).at_ W6 vp ∧ (⟨v.Q, v.qA, v.qk, Y0, Y1, X, xA, xk⟩ : VR).off AV ∧ (⟨v.Q, v.qA, v.qk, Y0, Y1, X, xA, xk⟩ : VR).vs = v.vs.fed a b) ∧
      Row W6 W6.heap.size dA (llcells D) ∧ (∀ y ∈ D, RowI W6 W6.heap.size y.A y.L) ∧ W6.cell? ⟨tb, 1, none⟩ = some (boxD dA dk D) := by
  have hst : ∀ T, T ≠ 70 → Stand T wo W6 := fun T hne => Stand.grown hg fun g cur d hc q => by
    injection q with q
    subst q
    have := hv.box
    unfold Blk at this
    rw [hc] at this
    injection this with this
    injection this with _ this _
    exact hne this
  have sI := hst 51 (by decide)
  have sN := hst 3 (by decide)
  have hcell : ∃ cur T d, wo.heap[vp]? = some (Obj.cells cur T d) := ⟨_, _, _, hv.box⟩
  have hz : wo.heap.size ≤ W6.heap.size := hg.size
  have y0' := y0.stand sI sN hz
  have y1' := y1.stand sI sN hz
  have hod := own_stand hT.od (hst _ (by decide))
  have hox := own_stand hT.ox (hst _ (by decide))
  have hxs : ∀ x ∈ X, SetIn W6 lo x.A x.k x.L := fun x hx => (hT.xs x hx).stand sI sN hz
  refine ⟨⟨⟨hb, hv.q.kept' ho.q hg hav, y0'.rowI, y1'.rowI, Row.of_ownS hox, fun x hx => (hxs x hx).rowI, fun i h1 h2 => (hT.gs i h1 h2).cells hg (fun g e => by injection e with e; subst e; exact hcell)⟩, ⟨ho.q, y0'.off hAV, y1'.off hAV, ?_, fun x hx => (hxs x hx).off fun b hb => Nat.lt_of_lt_of_le (hAV b hb) hlo⟩, ?_⟩, Row.of_ownS hod, fun y hy => ((hT.ds y hy).stand sI sN hz).rowI, ?_⟩
  · exact .inr fun b off q e hb => by have := own_newS hox hlo b off q e; have := hAV b hb; omega
  · rw [VS.fed_eq hE]
    have hq : v.vs.q.length = D.length := by rw [hD]; simp [VR.vs]
    rw [← hq] at hP
    rw [hP.done]
    show VS.mk (sts v.Q) (its Y0.L) (its Y1.L) (nsets X) = VS.mk (sts v.Q) (sumL (its v.T0.L ++ a)) (sumL (its v.T1.L ++ b)) (nsets X)
    rw [i0, i1]
  · rw [((hT.box).stand (hst _ (by decide))).cells.1 1]; rfl
theorem feed_last {v : VR} {a b : List It} {W : List Int} {D : List LR} {X : List NR} (hok : v.vs.ok) (hq0 : 0 < v.Q.length) (hE : v.vs.feedE a b = 0) (hP : TP v.vs a b W D.length (nsets X) (D.map (fun y => its y.L))) (hD : D.length = v.Q.length) (hX : X.length = D.length) (hn : D.length - 1 < D.length) :
    sumL (its D[D.length - 1].L) = v.vs.more a b ∧ D[D.length - 1].L.length ≤ 800 ∧ ∀ x ∈ D[D.length - 1].L, x.row.length ≤ 8 := by
  have hS := hok.fix.1
  have hq : v.vs.q.length = D.length := by rw [hD]; simp [VR.vs]
  have hSl : v.vs.S.length = D.length := by omega
  have hNl : (nsets X).length = D.length := by simp [hX]
  have hd : its D[D.length - 1].L = subL (v.vs.S.getD (D.length - 1) []) ((nsets X).getD (D.length - 1) []) := by
    have h1 : (D.map (fun y => its y.L)).getD (D.length - 1) [] = (dl v.vs.S (nsets X)).getD (D.length - 1) [] := congrArg (fun l => l.getD (D.length - 1) []) hP.d
    rw [dl_at (by omega) (by omega)] at h1
    rw [← h1, List.getD_eq_getElem?_getD, List.getElem?_map, List.getElem?_eq_getElem hn]
    rfl
  have hs1 : setI (v.vs.S.getD (D.length - 1) []) = 0 := hok.fix.set _
  have hs2 : setI ((nsets X).getD (D.length - 1) []) = 0 := (hP.o.2 _ (by omega)).1
  obtain ⟨b1, b2⟩ := subL_bound hs1 hs2
  rw [← hd] at b1 b2
  refine ⟨?_, by rwa [its_len] at b1, fun x hx => ?_⟩
  · unfold VS.more
    rw [if_pos hE, hd]
    have e1 : v.vs.told = v.vs.S.getD (D.length - 1) [] := by unfold VS.told; rw [← getD_last _ _ (by omega), hSl]
    have hP' := hP
    rw [← hq] at hP'
    have e2 : (v.vs.fed a b).told = (nsets X).getD (D.length - 1) [] := by
      rw [VS.fed_eq hE, hP'.done]
      unfold VS.told
      rw [← getD_last _ _ (by show 0 < (nsets X).length; omega)]
      show (nsets X).getD ((nsets X).length - 1) [] = _
      rw [hNl]
    rw [e1, e2]
    unfold subL
    exact sumL_sumL _
  · have := b2 x.it (List.mem_map.2 ⟨x, hx, rfl⟩)
    exact this.2.1
set_option maxHeartbeats 8000000 in
set_option maxRecDepth 100000 in
theorem feed_any (v : VR) (vp : Nat) (m0 m1 : LR) (AV : Nat → Prop) (w : World) (hv : v.at_ w vp) (hok : v.vs.ok) (ho : v.off AV) (hav : AV vp) (hAV : ∀ b, AV b → b < w.heap.size) (h0 : RowI w w.heap.size m0.A m0.L) (h1 : RowI w w.heap.size m1.A m1.L)
    (l0 : m0.L.length ≤ 9223372036854775807) (l1 : m1.L.length ≤ 9223372036854775807) :
    Calls Tryd.prog 15 #[.pointer (some ⟨vp, 0, none⟩), .slice m0.A m0.L.length m0.k, .slice m1.A m1.L.length m1.k] w (FeedPost v vp AV (its m0.L) (its m1.L) w) := by
  obtain ⟨W, hW, hWl, hq0, hq8⟩ := hok.wids
  have hQl : v.Q.length = v.vs.q.length := by simp [VR.vs]
  have hQ8 : v.Q.length ≤ 8 := by omega
  have hQ0 : 0 < v.Q.length := by omega
  have hNl : v.N.length = v.Q.length := by
    have := hok.fix.1
    rw [hQl, ← this]; simp [VR.vs]
  have lT0 : v.T0.L.length ≤ 400 := by have := (setI_zero.1 hok.s0).1; simpa [VR.vs] using this
  have lT1 : v.T1.L.length ≤ 400 := by have := (setI_zero.1 hok.s1).1; simpa [VR.vs] using this
  have HQL := hid hQl
  have HNL := hid hNl
  have HW := hid hW
  have HFE := hid (feedE_fed v.vs (its m0.L) (its m1.L))
  clear hWl hQl hNl hq0 hq8 hW
  have HBAD := hid (fun (E : Int) (w' : World) (hE : v.vs.feedE (its m0.L) (its m1.L) = E) (hz : E ≠ 0) (hb : Below w.heap.size w w') => feedPost_bad (AV := AV) (vp := vp) hE hz hv ho hb)
  obtain ⟨w1, hw1⟩ : ∃ q : World, q = w.alloc (.cells #[.slice m0.A m0.L.length m0.k, .slice m1.A m1.L.length m1.k] 68) := ⟨_, rfl⟩
  have HB1 := hid (show Below w.heap.size w w1 by rw [hw1]; exact alloc_below (Below.refl _ _) _)
  have HM := hid (show Blk w1 w.heap.size #[.slice m0.A m0.L.length m0.k, .slice m1.A m1.L.length m1.k] 68 by rw [hw1]; exact Blk.new _ _ _)
  have HFD := hid (fed_any v vp m0 m1 w1 (hv.step HB1.out) (h0.step HB1.out) (h1.step HB1.out) l0 l1 (by omega) (by omega) (by omega))
  obtain ⟨F, hF⟩ : ∃ f, f = fedE (sts v.Q) (its v.T0.L) (its v.T1.L) (its m0.L) (its m1.L) := ⟨_, rfl⟩
  have HF := hid hF
  have HF' := hid (show F = fedE v.vs.q v.vs.T0 v.vs.T1 (its m0.L) (its m1.L) from hF)
  go_enter Tryd.func15, Tryd.ntmps15
  go_upto_region 2 with fail
  rw [← hw1]
  have HW1S := hid (show w.heap.size < w1.heap.size by rw [hw1]; simp)
  clear hw1
  obtain ⟨cHM, fHM, sHM, nHM⟩ := HM.out.all
  try simp only [cbox] at cHM
  go_wp2_with fail
  refine HFD.out.mono ?_
  rintro e w2 ⟨hb2, Y0, Y1, rfl, hy⟩
  rw [← hF] at hy ⊢
  have HY := hid hy
  clear cHM fHM sHM nHM
  replace HM := hid (HM.out.step hb2)
  have HB2 := hid (Below.step' HB1.out hb2)
  have HZ12 := hid hb2.size
  clear hb2 hy hF HFD
  by_cases hz : F = 0
  rotate_left
  · have t1 : (F != 0) = true := by simpa using hz
    have HE := hid (show v.vs.feedE (its m0.L) (its m1.L) = F by rw [HFE.out, ← HF'.out, if_pos hz])
    have HNZ := hid hz
    clear hz
    go_wp2_with fail
    -- STOP-a
    go_ret2
    exact HBAD.out F _ HE.out HNZ.out (alloc_below HB2.out _)
  have HFZ := hid (fedE_zero (q := v.vs.q) (T0 := v.vs.T0) (T1 := v.vs.T1) (a := its m0.L) (b := its m1.L) (by rw [← HF'.out]; exact hz))
  have HFE2 := hid (show v.vs.feedE (its m0.L) (its m1.L) = (setsG (sumL (v.vs.T0 ++ its m0.L)) (sumL (v.vs.T1 ++ its m1.L)) v.vs.q []).1 by rw [HFE.out, if_neg (by rw [← HF'.out]; simp [hz])])
  obtain ⟨yi0, yi1, ys0, ys1⟩ := HY.out hz
  have t1 : (F != 0) = false := by simp [hz]
  clear hz HFE HF HF' HY
  obtain ⟨W0, hW0⟩ : ∃ q : World, q = w2.alloc (.cells #[.slice Y0.A Y0.L.length Y0.k, .slice Y1.A Y1.L.length Y1.k] 68) := ⟨_, rfl⟩
  have hb2 : Below w2.heap.size w2 W0 := by rw [hW0]; exact alloc_below (Below.refl _ _) _
  have HYB := hid (show Blk W0 w2.heap.size #[.slice Y0.A Y0.L.length Y0.k, .slice Y1.A Y1.L.length Y1.k] 68 by rw [hW0]; exact Blk.new _ _ _)
  replace HM := hid (HM.out.step hb2)
  have HB0 := hid (Below.step' HB2.out hb2)
  have HYS0 := hid (SetIn.lo (ys0.step hb2) HB1.out.size)
  have HYS1 := hid (SetIn.lo (ys1.step hb2) HB1.out.size)
  have HYI0 := hid yi0
  have HYI1 := hid yi1
  have HW0S := hid (show w2.heap.size < W0.heap.size by rw [hW0]; simp)
  clear ys0 ys1 yi0 yi1 hb2
  go_upto_region 5 with fail
  rw [← hW0]
  clear hW0
  -- STOP-b
  obtain ⟨w3, hw3⟩ : ∃ q : World, q = W0.alloc (.cells #[.pointer (some ⟨vp, 0, none⟩), .slice none 0 0, .slice none 0 0] 81) := ⟨_, rfl⟩
  have HB3 := hid (show Below W0.heap.size W0 w3 by rw [hw3]; exact alloc_below (Below.refl _ _) _)
  have HT3 := hid (show TurnAt w3 W0.heap.size W0.heap.size vp v.Q none 0 [] none 0 [] (boxD none 0 []) (boxX none 0 []) from
    ⟨by rw [hw3]; exact Blk.new _ _ _, Nat.le_refl _, HB3.out.size, World.ownsRow_nil _ _ _ _, World.ownsRow_nil _ _ _ _, fun y hy => by simp at hy, fun y hy => by simp at hy, fun j h => by simp at h⟩)
  have HV3 := hid ((hv.step HB0.out).step HB3.out).box
  go_upto_region 6 with fail
  rw [← hw3]
  clear hw3
  obtain ⟨cHV3, fHV3, sHV3, nHV3⟩ := HV3.out.all
  try simp only [cbox] at cHV3
  go_wp2_with fail
  clear cHV3 fHV3 sHV3 nHV3
  -- STOP-c
  have HSTEP := hid (fun (D : List LR) (X : List NR) (dA xA : Option Addr) (dk xk : Nat) (wr : World) hT hB hP hX hi => feed_step v vp W0.heap.size m0 m1 W D X dA xA dk xk W0 wr (hv.step HB0.out) hok HW.out HFZ.out.1 hT hB hP hX hi (h0.step HB0.out) (h1.step HB0.out))
  go_loopw [34] (fun s34 wr => ∃ (D : List LR) (X : List NR) (dA xA : Option Addr) (dk xk : Nat), D.length ≤ v.Q.length ∧ s34 = .int .i64 D.length ∧ Hid (X.length = D.length) ∧ Hid (TurnAt wr W0.heap.size W0.heap.size vp v.Q dA dk D xA xk X (boxD dA dk D) (boxX xA xk X)) ∧ Hid (Below W0.heap.size W0 wr) ∧ Hid (TP v.vs (its m0.L) (its m1.L) W D.length (nsets X) (D.map (fun y => its y.L)))) (fun s34 _ => v.Q.length - (intOf s34).toNat)
  case atStart => exact ⟨[], [], none, none, 0, 0, by simp, rfl, hid rfl, HT3, HB3, hid (TP.start _ _ _ _)⟩
  case round =>
    clear HT3 HB3 HV3
    obtain ⟨D, X, dA, xA, dk, xk, hD, rfl, HX, HT, HBW, HP⟩ := hrel
    obtain ⟨wo, rfl⟩ : ∃ wx : World, wx = wr := ⟨_, rfl⟩
    by_cases hlt : D.length < v.Q.length
    · have HMO := hid (HM.out.step HBW.out)
      obtain ⟨l, hl⟩ : ∃ l, l = sumL (mAt (its m0.L) (its m1.L) v.Q[D.length].st (nsets v.N) (D.map (fun y => its y.L))) := ⟨_, rfl⟩
      obtain ⟨S, hS⟩ : ∃ S, S = sumL ((nsets v.N).getD D.length [] ++ l) := ⟨_, rfl⟩
      have hc := HSTEP.out D X dA xA dk xk wo HT.out HBW.out HP.out HX.out hlt
      rw [← hl] at hc
      rw [← hS] at hc
      have HC := hid hc
      have H2 := hid (feed_two v (its m0.L) (its m1.L) W D X hok HW.out HFZ.out.1 HP.out hlt hl hS)
      have hltI : (D.length : Int) < (v.Q.length : Int) := by omega
      clear hc hl hS HT HBW HP
      obtain ⟨cHMO, fHMO, sHMO, nHMO⟩ := HMO.out.all
      try simp only [cbox] at cHMO
      go_wp2_with fail
      -- STOP-d
      refine HC.out.mono ?_
      rintro e w5 ⟨rfl, hb5, hy5⟩
      obtain ⟨E, hE⟩ : ∃ E, E = doneE S := ⟨_, rfl⟩
      rw [← hE] at hy5 ⊢
      have HB5 := hid hb5
      have HY5 := hid hy5
      have HE5 := hid hE
      clear hb5 hy5 HC HMO hE
      by_cases hz : E = 0
      rotate_left
      · have t1 : (E != 0) = true := by simpa using hz
        have HE := hid (show v.vs.feedE (its m0.L) (its m1.L) = E by rw [HFE2.out, H2.out.2 (by rw [← HE5.out]; exact hz), HE5.out])
        have HNZ := hid hz
        clear hz
        go_wp2_with fail
        -- STOP-e
        go_ret2
        exact HBAD.out E _ HE.out HNZ.out (Below.step' HB0.out HB5.out)
      have HPN := hid (H2.out.1 (by rw [← HE5.out]; exact hz))
      obtain ⟨y, z, dA', dk', xA', xk', yl, zl, ht⟩ := HY5.out hz
      have HT5 := hid ht
      have HYL := hid yl
      have HZL := hid zl
      subst hz
      clear ht yl zl H2 HY5
      go_wp2_with fail
      -- STOP-f
      go_roundw
      case rel =>
        refine ⟨D ++ [y], X ++ [z], dA', xA', dk', xk', by simp; omega, congrArg (Value.int .i64) (by simp), hid (by simp [HX.out]), HT5, HB5, hid ?_⟩
        have h1 : nsets (X ++ [z]) = nsets X ++ [S] := by simp [nsets, HZL.out]
        have h2 : (D ++ [y]).map (fun y => its y.L) = D.map (fun y => its y.L) ++ [l] := by simp [HYL.out]
        rw [h1, h2, List.length_append]
        exact HPN.out
      case measure => simp [intOf]; omega
    · have hik : D.length = v.Q.length := by omega
      have HIK := hid hik
      have hni : ¬ ((D.length : Int) < (v.Q.length : Int)) := by omega
      have HMO := hid (HM.out.step HBW.out)
      have HTC := hid HT.out.cells'
      have HV5 := hid (show Blk wo vp #[.slice v.qA v.Q.length v.qk, .slice v.T0.A v.T0.L.length v.T0.k, .slice v.T1.A v.T1.L.length v.T1.k, .slice v.nA v.N.length v.nk] 70 from ((hv.step HB0.out).step HBW.out).box)
      have HYB5 := hid (HYB.out.step HBW.out)
      clear hik
      obtain ⟨cHMO, fHMO, sHMO, nHMO⟩ := HMO.out.all
      try simp only [cbox] at cHMO
      go_upto_region 13 with fail
      clear cHMO fHMO sHMO nHMO
      obtain ⟨⟨cT0, cT1, cT2⟩, -⟩ := HTC.out
      obtain ⟨cHV5, fHV5, sHV5, nHV5⟩ := HV5.out.all
      try simp only [cbox] at cHV5
      obtain ⟨cHYB5, fHYB5, sHYB5, nHYB5⟩ := HYB5.out.all
      try simp only [cbox] at cHYB5
      have nv2 : (vp = w2.heap.size) = False := by have := hAV vp hav; have := HB2.out.size; simp; omega
      have nv2' : (w2.heap.size = vp) = False := by have := hAV vp hav; have := HB2.out.size; simp; omega
      have nvt : (vp = W0.heap.size) = False := by have := hAV vp hav; have := HB0.out.size; simp; omega
      have nvt' : (W0.heap.size = vp) = False := by have := hAV vp hav; have := HB0.out.size; simp; omega
      go_big_region
      -- STOP-g
      clear cHV5 fHV5 sHV5 nHV5
      clear cHYB5 fHYB5 sHYB5 nHYB5
      clear cT0 cT1 cT2 nv2 nv2' nvt nvt'
      obtain ⟨W6, hW6⟩ : ∃ W6, W6 = (((wo.setCell ⟨vp, 1, none⟩ (.slice Y0.A Y0.L.length Y0.k)).setCell ⟨vp, 2, none⟩ (.slice Y1.A Y1.L.length Y1.k)).setCell ⟨vp, 3, none⟩ (.slice xA X.length xk)).drew := ⟨_, rfl⟩
      rw [← hW6]
      have HG6 := hid (show wo.grownBy W6 (some vp) by rw [hW6]; exact grown_drew (((grown_setS _ _ _ _).trans (grown_setS _ _ _ _)).trans (grown_setS _ _ _ _)))
      have HB6 := hid (show Blk W6 vp #[.slice v.qA v.Q.length v.qk, .slice Y0.A Y0.L.length Y0.k, .slice Y1.A Y1.L.length Y1.k, .slice xA X.length xk] 70 by rw [hW6]; exact (((HV5.out.set 1 _).set 2 _).set 3 _).eq rfl)
      clear hW6
      have hz0 : w.heap.size ≤ W0.heap.size := HB0.out.size
      have HEZ := hid (show v.vs.feedE (its m0.L) (its m1.L) = 0 by
        rw [HFE2.out]
        have hP' := HP.out
        rw [show D.length = v.vs.q.length by rw [HIK.out, HQL.out]] at hP'
        rw [hP'.done])
      have HDN := hid (feed_done (AV := AV) (w := w) ((hv.step HB0.out).step HBW.out) ho hav hAV HEZ.out HT.out hz0 HP.out HIK.out (HYS0.out.step HBW.out) (HYS1.out.step HBW.out) HYI0.out HYI1.out HG6.out HB6.out)
      have hn : D.length - 1 < D.length := by have := HIK.out; omega
      have HFL := hid (feed_last hok hQ0 HEZ.out HP.out HIK.out HX.out hn)
      obtain ⟨-, hrD, hrY, cT1⟩ := HDN.out
      have HAG := hid (fun (w7 : World) (hb : Below W6.heap.size W6 w7) => again_any D[D.length - 1].L D[D.length - 1].A D[D.length - 1].k w7 ((hrY _ (List.getElem_mem hn)).step hb) (by have := HFL.out.2.1; omega) (fun x hx => by have := HFL.out.2.2 x hx; omega))
      -- STOP-h
      obtain ⟨bD, oD, rfl, hbD, cD⟩ := Row.flat LR.len hrD (by omega) hn
      replace cD := cD 0 _ rfl
      simp only [Nat.mul_one, Nat.add_zero] at cD
      generalize D[D.length - 1] = yl at HFL HAG cD
      have hwr : IntKind.i64.wrap ((D.length : Int) - 1) = ((D.length - 1 : Nat) : Int) := by rw [IntKind.wrap_i64]; omega
      have hl1 : (0 : Int) ≤ ((D.length - 1 : Nat) : Int) := by omega
      have hl2 : ((D.length - 1 : Nat) : Int) < (D.length : Int) := by omega
      clear hrY hrD
      go_upto_region 14 with fail
      -- STOP-i
      refine region_tail 12 (by kernel_rfl) (by kernel_rfl) ?_
      simp only [List.take_succ_cons, List.take_zero, List.drop_succ_cons, List.drop_zero]
      repeat still_step
      refine wpStill_nil ?_
      go_wp2_with fail
      -- STOP-j
      refine (HAG.out _ (Below.drew (Below.refl _ _))).mono ?_
      rintro e w7 ⟨A7, k7, L7, rfl, hi7, ho7, hn7, hb7⟩
      have hb7' : Below W6.heap.size W6 w7 := Below.step' (Below.drew (Below.refl _ _)) hb7
      have HX7 := hid (show SetIn w7 w.heap.size A7 k7 L7 from SetIn.lo ⟨ho7, hn7⟩ (Nat.le_trans (Nat.le_trans hz0 HBW.out.size) HG6.out.size))
      have HI7 := hid (show its L7 = v.vs.more (its m0.L) (its m1.L) by rw [hi7]; exact HFL.out.1)
      have HB7 := hid hb7'
      clear ho7 hn7 hi7 hb7 hb7' HAG HFL
      go_wp2_with fail
      -- STOP-k
      go_ret2
      obtain ⟨⟨d1, d2, d3⟩, -⟩ := HDN.out
      refine ⟨A7, k7, L7, by rw [HEZ.out]; rfl, HI7.out, HX7.out, ?_, _, d1.step HB7.out, d3, d2, rfl, rfl, rfl⟩
      exact (grown_some (grown_of_below (HB0.out.trans (HBW.out.mono hz0))) _).trans (HG6.out.trans (grown_some (grown_of_below HB7.out) _))
end Go.Proofs.YtldlmkfigjicgaaDoor
/- inc.View.All. -/
namespace Go.Proofs.YtldlmkfigjicgaaDoor
set_option linter.unusedVariables false
set_option linter.unusedSimpArgs false
open Go.ChangeShapes Go.WideShapes Go.ChangeAt Go.RowKit

theorem vs_new {v : VR} {q : List St} (h0 : sts v.Q = q) (h1 : v.T0.L = []) (h2 : v.T1.L = []) (h3 : v.N.length = q.length) (h4 : ∀ x ∈ v.N, x.L = []) : v.vs = VS.start q := by
  unfold VR.vs VS.start
  rw [h0, h1, h2]
  have e : nsets v.N = List.replicate q.length [] := by
    rw [← h3]
    refine List.eq_replicate_iff.2 ⟨by simp, fun x hx => ?_⟩
    obtain ⟨y, hy, rfl⟩ := List.mem_map.1 hx
    rw [h4 y hy]; rfl
  rw [e]; rfl
theorem told_at {v : VR} (hok : v.vs.ok) (hn : v.N.length - 1 < v.N.length) : its v.N[v.N.length - 1].L = v.vs.told ∧ v.N[v.N.length - 1].L.length ≤ 400 ∧ ∀ x ∈ v.N[v.N.length - 1].L, x.row.length ≤ 8 := by
  have e : its v.N[v.N.length - 1].L = v.vs.told := by
    unfold VS.told
    show _ = (nsets v.N).getLastD []
    rw [← getD_last _ _ (by rw [List.length_map]; omega), List.length_map, nsets_at hn]
  have hs := VS.told_set hok
  rw [← e] at hs
  refine ⟨e, by have := (setI_zero.1 hs).1; rwa [its_len] at this, fun x hx => ?_⟩
  exact (badB_bound ((setI_zero.1 hs).2.1 x.it (List.mem_map.2 ⟨x, hx, rfl⟩))).1
set_option maxHeartbeats 2000000 in
set_option maxRecDepth 100000 in
theorem all_tells (v : VR) (vp : Nat) (w : World) (hv : v.at_ w vp) (hok : v.vs.ok) :
    Calls Tryd.prog 19 #[.pointer (some ⟨vp, 0, none⟩)] w (ItsPost v.vs.told w) := by
  obtain ⟨W, hW, hWl, hq0, hq8⟩ := hok.wids
  have hNl : v.N.length = v.vs.q.length := by rw [← hok.fix.1]; simp [VR.vs]
  have hN0 : 0 < v.N.length := by omega
  have hn : v.N.length - 1 < v.N.length := by omega
  obtain ⟨t1, t2, t3⟩ := told_at hok hn
  have hSt : Strict v.vs.told := (setI_zero.1 (VS.told_set hok)).2.2
  have HV := hid (show Blk w vp #[.slice v.qA v.Q.length v.qk, .slice v.T0.A v.T0.L.length v.T0.k, .slice v.T1.A v.T1.L.length v.T1.k, .slice v.nA v.N.length v.nk] 70 from hv.box)
  obtain ⟨bN, oN, enA, hbN, n0, -⟩ := hv.n.nr hn
  have HAG := hid (fun (w7 : World) (hb : Below w.heap.size w w7) => again_any v.N[v.N.length - 1].L v.N[v.N.length - 1].A v.N[v.N.length - 1].k w7 ((hv.ns _ (List.getElem_mem hn)).step hb) (by omega) (fun x hx => by have := t3 x hx; omega))
  rw [t1, sumL_strict hSt] at HAG
  rw [enA] at HV
  generalize v.N[v.N.length - 1] = yl at HAG n0
  have hwr : IntKind.i64.wrap ((v.N.length : Int) - 1) = ((v.N.length - 1 : Nat) : Int) := by rw [IntKind.wrap_i64]; omega
  have hl1 : (0 : Int) ≤ ((v.N.length - 1 : Nat) : Int) := by omega
  have hl2 : ((v.N.length - 1 : Nat) : Int) < (v.N.length : Int) := by omega
  clear hW hWl hq0 hq8 hNl t1 t2 t3 hSt hv hok
  obtain ⟨cHV, fHV, sHV, nHV⟩ := HV.out.all
  try simp only [cbox] at cHV
  go_enter Tryd.func19, Tryd.ntmps19
  go_wp2_with fail
  -- STOP-a
  refine region_tail 12 (by kernel_rfl) (by kernel_rfl) ?_
  simp only [List.take_succ_cons, List.take_zero, List.drop_succ_cons, List.drop_zero]
  repeat still_step
  refine wpStill_nil ?_
  go_wp2_with fail
  -- STOP-b
  refine (HAG.out _ (Below.drew (Below.refl _ _))).mono ?_
  rintro e w7 ⟨A7, k7, L7, rfl, hi7, ho7, hn7, hb7⟩
  have hb7' : Below w.heap.size w w7 := Below.step' (Below.drew (Below.refl _ _)) hb7
  go_wp2_with fail
  -- STOP-c
  go_ret
  exact ⟨A7, k7, L7, rfl, hi7, ho7, hn7, hb7'⟩
end Go.Proofs.YtldlmkfigjicgaaDoor
/- slices.Equal at int, EqualFunc at Item, viewref.SameSet. -/
namespace Go.Proofs.YtldlmkfigjicgaaDoor
set_option linter.unusedVariables false
set_option linter.unusedSimpArgs false
open Go.ChangeShapes Go.WideShapes Go.ChangeAt Go.RowKit

set_option maxHeartbeats 400000 in
set_option maxRecDepth 100000 in
theorem equalN_any (l m : List Int) (A B : Option Addr) (c e : Nat) (w : World) (hr : Row w w.heap.size A (icells' l)) (hs : Row w w.heap.size B (icells' m)) (hl : l.length ≤ 9223372036854775807) (hm : m.length ≤ 9223372036854775807) :
    Calls Tryd.prog 9 #[.slice A l.length c, .slice B m.length e] w fun e w' => e = .returned (.bool (decide (l = m))) ∧ Below w.heap.size w w' := by
  have HR := hid hr
  have HS := hid hs
  clear hr hs
  by_cases hlen : l.length = m.length
  · have hne : ((l.length : Int) != (m.length : Int)) = false := by simp [hlen]
    have HL := hid hlen
    clear hlen
    go_enter Tryd.func9, Tryd.ntmps9
    go_wp2
    go_loopw [13] (fun i wr => (∃ k : Nat, k ≤ l.length ∧ i = .int .i64 k ∧ ∀ j (h : j < l.length) (h' : j < m.length), j < k → l[j] = m[j]) ∧ Below w.heap.size w wr) (fun i _ => l.length - (intOf i).toNat)
    case atStart => exact ⟨⟨0, by omega, rfl, fun j _ _ h => absurd h (by omega)⟩, Below.refl _ _⟩
    case round =>
      obtain ⟨⟨k, hk, rfl, hno⟩, hbw⟩ := hrel
      by_cases hlt : k < l.length
      · have hlt' : k < m.length := by have := HL.out; omega
        obtain ⟨b, off, rfl, hb, h0⟩ := (HR.out.below hbw (Nat.le_refl _)).int' hlt
        obtain ⟨b', off', rfl, hb', h0'⟩ := (HS.out.below hbw (Nat.le_refl _)).int' hlt'
        have HN := hid hno
        have HB := hid hbw
        clear hno hbw
        generalize hd : l[k] = d at *
        generalize hd' : m[k] = d' at *
        have HD := hid hd
        have HD' := hid hd'
        clear hd hd'
        by_cases hq : d = d'
        · have q : (d != d') = false := by simp [hq]
          have HQ := hid hq
          clear hq
          go_wp2
          refine wp_region_quiet_lit (by kernel_rfl) (by kernel_rfl) ?_
          repeat (any_goals ((with_reducible refine wpQuiet_step (fun K hK => ?_)); go_simp; first | (with_reducible refine hK _ ?_; clear hK K) | ((with_reducible apply Exists.intro); (with_reducible refine ⟨fun _ => ?_, hK _ ?_⟩); (fail); clear hK K) | ((with_reducible refine (if_neg ?_).mpr (hK _ ?_)); (decide); clear hK K) | (split <;> (with_reducible refine hK _ ?_; clear hK K))))
          all_goals ((with_reducible refine wpQuiet_nil ?_); intro _ hw'; obtain ⟨nq, hw''⟩ := hw'; subst hw'')
          go_wp2
          go_roundw
          case rel =>
            refine ⟨⟨k + 1, by omega, by go_num, fun j h h' hj => ?_⟩, below_drewN HB.out _⟩
            by_cases e : j = k
            · subst e; rw [HD.out, HD'.out]; exact HQ.out
            · exact HN.out j h h' (by omega)
          case measure => simp [intOf]; omega
        · have q : (d != d') = true := by simp [hq]
          have HQ := hid hq
          clear hq
          go_wp2
          refine wp_region_quiet_lit (by kernel_rfl) (by kernel_rfl) ?_
          repeat (any_goals ((with_reducible refine wpQuiet_step (fun K hK => ?_)); go_simp; first | (with_reducible refine hK _ ?_; clear hK K) | ((with_reducible apply Exists.intro); (with_reducible refine ⟨fun _ => ?_, hK _ ?_⟩); (fail); clear hK K) | ((with_reducible refine (if_neg ?_).mpr (hK _ ?_)); (decide); clear hK K) | (split <;> (with_reducible refine hK _ ?_; clear hK K))))
          all_goals ((with_reducible refine wpQuiet_nil ?_); intro _ hw'; obtain ⟨nq, hw''⟩ := hw'; subst hw'')
          go_wp2
          go_ret
          refine ⟨ret_bool ?_, below_drewN HB.out _⟩
          symm
          rw [decide_eq_false_iff_not]
          rintro rfl
          exact HQ.out (HD.out.symm.trans HD'.out)
      · go_wp2
        go_ret
        refine ⟨ret_bool ?_, hbw⟩
        have : l = m := List.ext_getElem HL.out fun j h h' => hno j h h' (by omega)
        simp [this]
  · have hne : ((l.length : Int) != (m.length : Int)) = true := by simp; omega
    go_enter Tryd.func9, Tryd.ntmps9
    go_wp2
    go_ret
    exact ⟨ret_bool (by symm; simp; rintro rfl; exact hlen rfl), Below.refl _ _⟩


set_option maxHeartbeats 400000 in
set_option maxRecDepth 100000 in
theorem same1_any (x y : IR) (w : World) (hx : Row w w.heap.size x.A (icells' x.row)) (hxl : x.row.length ≤ 9223372036854775807) (hy : Row w w.heap.size y.A (icells' y.row)) (hyl : y.row.length ≤ 9223372036854775807) :
    Calls Tryd.prog 47 #[.agg x.cells.toArray, .agg y.cells.toArray] w fun e w' => e = .returned (.bool (decide (x.it = y.it))) ∧ Below w.heap.size w w' := by
  obtain ⟨xr, xA, xk, xn⟩ := x
  obtain ⟨yr, yA, yk, yn⟩ := y
  simp only at hx hxl hy hyl
  have HC := hid (fun w1 (hb : Below w.heap.size w w1) => equalN_any xr yr xA yA xk yk w1 (hx.step hb) (hy.step hb) hxl hyl)
  clear hx hy
  have HX : Hid (decide (IR.it ⟨xr, xA, xk, xn⟩ = IR.it ⟨yr, yA, yk, yn⟩) = (decide (xn = yn) && decide (xr = yr))) := hid (by
    simp only [IR.it, Prod.mk.injEq]
    by_cases h1 : xr = yr <;> by_cases h2 : xn = yn <;> simp [h1, h2])
  obtain ⟨R, hR⟩ : ∃ R, R = decide (IR.it ⟨xr, xA, xk, xn⟩ = IR.it ⟨yr, yA, yk, yn⟩) := ⟨_, rfl⟩
  rw [← hR] at HX ⊢
  clear hR
  obtain ⟨rb, hrb⟩ : ∃ b, b = decide (xr = yr) := ⟨_, rfl⟩
  rw [← hrb] at HC HX
  clear hrb
  simp only [IR.cells]
  by_cases h : xn = yn
  · have t1 : (xn == yn) = true := by simp [h]
    have HD : Hid (R = rb) := hid (by rw [HX.out, decide_eq_true h]; rfl)
    clear h
    go_enter Tryd.func47, Tryd.ntmps47
    go_wp2_with fail
    refine (HC.out _ (by (repeat' (first | (with_reducible exact Below.refl _ _) | (with_reducible assumption) | (with_reducible refine below_drewN ?_ _) | (with_reducible refine Below.drew ?_) | (with_reducible refine Below.alloc ?_ ?_ _) | (with_reducible refine Below.setCell ?_ ?_ _) | (refine Below.trans ?_ (Below.mono (by assumption) ?_)) | go_size)))).mono ?_
    rintro e w1 ⟨rfl, hb1⟩
    have hB1 : Below w.heap.size w w1 := (by refine Below.step' ?_ hb1; (repeat' (first | (with_reducible exact Below.refl _ _) | (with_reducible assumption) | (with_reducible refine below_drewN ?_ _) | (with_reducible refine Below.drew ?_) | (with_reducible refine Below.alloc ?_ ?_ _) | (with_reducible refine Below.setCell ?_ ?_ _) | (refine Below.trans ?_ (Below.mono (by assumption) ?_)) | go_size)))
    clear hb1
    go_wp2
    go_ret
    exact ⟨ret_bool HD.out.symm, hB1⟩
  · have t1 : (xn == yn) = false := by simp [h]
    have HD : Hid (R = false) := hid (by rw [HX.out, decide_eq_false h]; rfl)
    clear h
    go_enter Tryd.func47, Tryd.ntmps47
    go_wp2
    go_ret
    exact ⟨ret_bool HD.out.symm, by (repeat' (first | (with_reducible exact Below.refl _ _) | (with_reducible assumption) | (with_reducible refine below_drewN ?_ _) | (with_reducible refine Below.drew ?_) | (with_reducible refine Below.alloc ?_ ?_ _) | (with_reducible refine Below.setCell ?_ ?_ _) | (refine Below.trans ?_ (Below.mono (by assumption) ?_)) | go_size))⟩
theorem enters_same1 : ∀ args w, (callFunc 47 args).run Tryd.prog w = .ok (.enter 47 args) w := enters_of Tryd.func47 (by kernel_rfl) rfl

set_option maxHeartbeats 1000000 in
set_option maxRecDepth 100000 in
theorem equalFunc_any (M1 M2 : List IR) (A1 A2 : Option Addr) (c1 c2 : Nat) (w : World) (hr1 : RowI w w.heap.size A1 M1) (hl1 : M1.length ≤ 9223372036854775807) (hr2 : RowI w w.heap.size A2 M2) (hl2 : M2.length ≤ 9223372036854775807) :
    Calls Tryd.prog 46 #[.slice A1 M1.length c1, .slice A2 M2.length c2, .func (.func 47) #[] #[]] w fun e w' => e = .returned (.bool (decide (its M1 = its M2))) ∧ Below w.heap.size w w' := by
  have HR1 := hid hr1
  have HR2 := hid hr2
  have eg := enters_same1
  clear hr1 hr2
  obtain ⟨R, hR⟩ : ∃ R, R = decide (its M1 = its M2) := ⟨_, rfl⟩
  rw [← hR]
  have HRR := hid hR
  clear hR
  by_cases hlen : M1.length = M2.length
  · have hne : ((M1.length : Int) != (M2.length : Int)) = false := by simp [hlen]
    have HL := hid hlen
    clear hlen
    go_enter Tryd.func46, Tryd.ntmps46
    go_wp2_with fail
    go_loopw [17] (fun s17 wr => ∃ k : Nat, k ≤ M1.length ∧ s17 = .int .i64 k ∧ Hid (∀ j (h : j < M1.length) (h' : j < M2.length), j < k → M1[j].it = M2[j].it) ∧ Hid (Below w.heap.size w wr)) (fun s17 _ => M1.length - (intOf s17).toNat)
    case atStart => exact ⟨0, by omega, rfl, hid (fun j _ _ h => by omega), hid (Below.refl _ _)⟩
    case round =>
      obtain ⟨k, hk, rfl, HNO, HB⟩ := hrel
      by_cases hlt : k < M1.length
      · have hlt' : k < M2.length := by have := HL.out; omega
        have HS1 := hid (HR1.out.step HB.out)
        have HS2 := hid (HR2.out.step HB.out)
        obtain ⟨b, off, rfl, hb, h0, h1⟩ := HS1.out.1.it hlt
        obtain ⟨b', off', rfl, hb', h0', h1'⟩ := HS2.out.1.it hlt'
        have q1 := HS1.out.2 _ (List.getElem_mem hlt)
        have q2 := HS2.out.2 _ (List.getElem_mem hlt')
        have HXY : Hid (∀ j (h : j < M1.length) (h' : j < M2.length), j = k → (M1[j].it = M2[j].it) = (M1[k].it = M2[k].it)) := hid (fun j h h' e => by subst e; rfl)
        generalize M1[k] = x at *
        generalize M2[k] = y at *
        have HCL := hid (fun w1 (hb : Below wr.heap.size wr w1) => same1_any x y w1 (q1.1.step hb) q1.2 (q2.1.step hb) q2.2)
        clear q1 q2
        obtain ⟨bq, hbq⟩ : ∃ q, q = decide (x.it = y.it) := ⟨_, rfl⟩
        rw [← hbq] at HCL
        have HBQ := hid hbq
        clear hbq
        obtain ⟨xr, xA, xk, xn⟩ := x
        obtain ⟨yr, yA, yk, yn⟩ := y
        simp only [IR.cells] at h0 h1 h0' h1' HCL
        have hnb : (b' = wr.heap.size) = False := by simp; omega
        cases bq
        · have HD : Hid (R = false) := hid (by
            rw [HRR.out, decide_eq_false_iff_not]
            intro e
            have h3 : (its M1)[k]? = (its M2)[k]? := by rw [e]
            rw [List.getElem?_eq_getElem (by rw [its_len]; exact hlt), List.getElem?_eq_getElem (by rw [its_len]; exact hlt')] at h3
            simp only [its, List.getElem_map, Option.some.injEq] at h3
            rw [HXY.out k hlt hlt' rfl] at h3
            have := HBQ.out
            rw [decide_eq_true h3] at this
            cases this)
          go_wp2_with fail
          refine (HCL.out _ (by (repeat' (first | (with_reducible exact Below.refl _ _) | (with_reducible assumption) | (with_reducible refine below_drewN ?_ _) | (with_reducible refine Below.drew ?_) | (with_reducible refine Below.alloc ?_ ?_ _) | (with_reducible refine Below.setCell ?_ ?_ _) | (refine Below.trans ?_ (Below.mono (by assumption) ?_)) | go_size)))).mono ?_
          rintro e w1 ⟨rfl, hb1⟩
          have hB1 : Below wr.heap.size wr w1 := (by refine Below.step' ?_ hb1; (repeat' (first | (with_reducible exact Below.refl _ _) | (with_reducible assumption) | (with_reducible refine below_drewN ?_ _) | (with_reducible refine Below.drew ?_) | (with_reducible refine Below.alloc ?_ ?_ _) | (with_reducible refine Below.setCell ?_ ?_ _) | (refine Below.trans ?_ (Below.mono (by assumption) ?_)) | go_size)))
          clear hb1
          go_wp2
          go_ret
          exact ⟨ret_bool HD.out.symm, Below.step' HB.out hB1⟩
        · go_wp2_with fail
          refine (HCL.out _ (by (repeat' (first | (with_reducible exact Below.refl _ _) | (with_reducible assumption) | (with_reducible refine below_drewN ?_ _) | (with_reducible refine Below.drew ?_) | (with_reducible refine Below.alloc ?_ ?_ _) | (with_reducible refine Below.setCell ?_ ?_ _) | (refine Below.trans ?_ (Below.mono (by assumption) ?_)) | go_size)))).mono ?_
          rintro e w1 ⟨rfl, hb1⟩
          have hB1 : Below wr.heap.size wr w1 := (by refine Below.step' ?_ hb1; (repeat' (first | (with_reducible exact Below.refl _ _) | (with_reducible assumption) | (with_reducible refine below_drewN ?_ _) | (with_reducible refine Below.drew ?_) | (with_reducible refine Below.alloc ?_ ?_ _) | (with_reducible refine Below.setCell ?_ ?_ _) | (refine Below.trans ?_ (Below.mono (by assumption) ?_)) | go_size)))
          have HB1 := hid hB1
          clear hb1 hB1
          go_wp2
          go_roundw
          case rel =>
            refine ⟨k + 1, by omega, by go_num, hid (fun j h h' hj => ?_), hid (Below.step' HB.out HB1.out)⟩
            by_cases e : j = k
            · rw [HXY.out j h h' e]; exact of_decide_eq_true HBQ.out.symm
            · exact HNO.out j h h' (by omega)
          case measure => simp [intOf]; omega
      · have HD : Hid (R = true) := hid (by
          rw [HRR.out, decide_eq_true_eq]
          refine List.ext_getElem (by rw [its_len, its_len]; exact HL.out) fun j h h' => ?_
          simp only [its, List.getElem_map]
          rw [its_len] at h h'
          exact HNO.out j h h' (by omega))
        go_wp2
        go_ret
        exact ⟨ret_bool HD.out.symm, HB.out⟩
  · have hne : ((M1.length : Int) != (M2.length : Int)) = true := by simp; omega
    have HD : Hid (R = false) := hid (by
      rw [HRR.out, decide_eq_false_iff_not]
      intro e
      exact hlen (by rw [← its_len M1, ← its_len M2, e]))
    go_enter Tryd.func46, Tryd.ntmps46
    go_wp2
    go_ret
    exact ⟨ret_bool HD.out.symm, Below.refl _ _⟩

set_option maxRecDepth 100000 in
theorem sameSet_any (M1 M2 : List IR) (A1 A2 : Option Addr) (c1 c2 : Nat) (w : World) (hr1 : RowI w w.heap.size A1 M1) (hl1 : M1.length ≤ 9223372036854775807) (hr2 : RowI w w.heap.size A2 M2) (hl2 : M2.length ≤ 9223372036854775807) :
    Calls Tryd.prog 18 #[.slice A1 M1.length c1, .slice A2 M2.length c2] w fun e w' => e = .returned (.bool (decide (its M1 = its M2))) ∧ Below w.heap.size w w' := by
  have HC := hid (equalFunc_any M1 M2 A1 A2 c1 c2 w hr1 hl1 hr2 hl2)
  clear hr1 hr2
  obtain ⟨R, hR⟩ : ∃ R, R = decide (its M1 = its M2) := ⟨_, rfl⟩
  rw [← hR] at HC ⊢
  clear hR
  go_enter Tryd.func18, Tryd.ntmps18
  go_wp2_with fail
  refine HC.out.mono ?_
  rintro e w1 ⟨rfl, hb1⟩
  go_wp2
  go_ret
  exact ⟨rfl, hb1⟩

end Go.Proofs.YtldlmkfigjicgaaDoor
