/- IvE, IvF, IvO -/
import Derived.Test.YtldlmkfigjicgaaGreatDoorIncPlaysCardS13
/- inc.turn.step. -/
namespace Go.Proofs.YtldlmkfigjicgaaGreatDoor
set_option linter.unusedVariables false
set_option linter.unusedSimpArgs false
open Go.ChangeShapes Go.WideShapes Go.ChangeAt Go.RowKit

theorem moreL_len {s : St} {A B a b : List It} (la : a.length ≤ 800) (lb : b.length ≤ 800) (lA : A.length ≤ 400) (lB : B.length ≤ 400) : (moreL s A B a b).length ≤ 1280000 := by
  unfold moreL
  split
  · unfold linL
    repeat' split
    · exact Nat.le_trans (List.length_filter_le _ _) (by omega)
    · unfold pickL; rw [List.length_map]; omega
    · rw [List.length_append]; omega
    · rw [List.length_append, negL, List.length_map]; omega
    · simp
  · split
    · rw [List.length_append, List.length_append]
      have := Nat.le_trans (joinL_len s a B) (Nat.mul_le_mul la lB)
      have := Nat.le_trans (joinL_len s A b) (Nat.mul_le_mul lA lb)
      have := Nat.le_trans (joinL_len s a b) (Nat.mul_le_mul la lb)
      omega
    · split
      · unfold distD; rw [List.length_map]
        exact Nat.le_trans (List.length_filter_le _ _) (by omega)
      · split
        · have := grpMore_len s A a; omega
        · simp
theorem dsets_at {D : List LR} {i : Nat} (h : i < D.length) : (D.map (fun y => its y.L)).getD i [] = its D[i].L := by
  rw [List.getD_eq_getElem?_getD, List.getElem?_map, List.getElem?_eq_getElem h]; rfl
/-- What a step of a turn leaves. -/
def StepPost (v : VR) (W0 : World) (tb vp : Nat) (D : List LR) (X : List NR) (l S : List It) (w : World) (e : Ending) (w' : World) : Prop :=
  e = .returned (.int .i64 (doneE S)) ∧ Below W0.heap.size W0 w' ∧ (doneE S = 0 → ∃ (y : LR) (z : NR) (dA : Option Addr) (dk : Nat) (xA : Option Addr) (xk : Nat), its y.L = l ∧ its z.L = S ∧ TurnAt w' W0.heap.size tb vp v.Q dA dk (D ++ [y]) xA xk (X ++ [z]) (boxD dA dk (D ++ [y])) (boxX xA xk (X ++ [z])))
/-- What its list is, ahead of its sum. -/
def CMPost (s : St) (LM : List It) (N S : Int → Int) (w : World) (e : Ending) (w' : World) : Prop :=
  ∃ (P : Option Addr) (k : Nat) (M : List IR) (g : Option Nat), e = .returned (.tuple #[.slice P M.length k, .map g]) ∧ (its M).Perm LM ∧ RowI w' w'.heap.size P M ∧ (s.kind = 8 ∨ s.kind = 9 → ∃ gb, g = some gb ∧ GM w' gb N S) ∧ Below w.heap.size w w'
theorem step_end {v : VR} {W0 w w7 : World} {tb vp : Nat} {D : List LR} {X : List NR} {l S : List It} {y : LR} {z : NR} {A5 A8 dA xA : Option Addr} {k5 k8 dk xk : Nat} {E : Int}
    (c : TurnAt w7 W0.heap.size tb vp v.Q A5 k5 (D ++ [y]) A8 k8 (X ++ [z]) (boxD dA dk D) (boxX xA xk X)) (hB : Below W0.heap.size W0 w7) (hE : E = doneE S) (hy : its y.L = l) (hz : E = 0 → its z.L = S) :
    StepPost v W0 tb vp D X l S w (.returned (.int .i64 E)) ((w7.setCell ⟨tb, 1, none⟩ (.slice A5 (D.length + 1) k5)).setCell ⟨tb, 2, none⟩ (.slice A8 (X.length + 1) k8)) := by
  refine ⟨by rw [hE], (hB.setCell (p := ⟨tb, 1, none⟩) c.tlo _).setCell (p := ⟨tb, 2, none⟩) c.tlo _, fun h0 => ⟨y, z, A5, k5, A8, k8, hy, hz (by rw [hE]; exact h0), ?_⟩⟩
  have c1 := c.set 1 (.slice A5 (D.length + 1) k5) (bd' := boxD A5 k5 (D ++ [y])) (bx' := boxX xA xk X) (by simp [boxD])
  exact c1.set 2 (.slice A8 (X.length + 1) k8) (by simp [boxX])
set_option maxHeartbeats 8000000 in
set_option maxRecDepth 100000 in
theorem tstep_any (v : VR) (vp tb i : Nat) (x : SR) (m0 m1 : LR) (D : List LR) (X : List NR) (dA xA : Option Addr) (dk xk : Nat) (W0 w : World) (hv : v.at_ W0 vp) (hB : Below W0.heap.size W0 w)
    (hT : TurnAt w W0.heap.size tb vp v.Q dA dk D xA xk X (boxD dA dk D) (boxX xA xk X)) (h0 : RowI W0 W0.heap.size m0.A m0.L) (h1 : RowI W0 W0.heap.size m1.A m1.L) (hD : D.length = i) (hX : X.length = i) (hi : i < v.Q.length) (hQN : v.Q.length = v.N.length) (hQ8 : v.Q.length ≤ 8)
    (hxq : v.Q[i] = x) (h01 : x.st.kind = 1 → x.st.a = 0 ∨ x.st.a = 1) (hr : x.st.kind ≠ 1 → 2 ≤ x.st.kind ∧ x.st.kind ≤ 9 ∧ 0 ≤ x.st.a ∧ x.st.a.toNat < i ∧ 0 ≤ x.st.b ∧ x.st.b.toNat < i)
    (hok : x.st.kind ≠ 1 → MoreOk x.st ((nsets v.N).getD x.st.a.toNat []) ((nsets v.N).getD x.st.b.toNat []) ((D.map (fun y => its y.L)).getD x.st.a.toNat []) ((D.map (fun y => its y.L)).getD x.st.b.toNat []))
    (href : ∀ j (h2 : j < v.Q.length), v.Q[j].st.kind = 8 ∨ v.Q[j].st.kind = 9 → v.Q[j].st.a.toNat < j)
    (hG : x.st.kind = 8 ∨ x.st.kind = 9 → ∀ k, wrp (grpN x.st ((nsets v.N).getD x.st.a.toNat []) k + grpN x.st ((D.map (fun y => its y.L)).getD x.st.a.toNat []) k) = grpN x.st ((nsets X).getD x.st.a.toNat []) k ∧ wrp (grpS x.st ((nsets v.N).getD x.st.a.toNat []) k + grpS x.st ((D.map (fun y => its y.L)).getD x.st.a.toNat []) k) = grpS x.st ((nsets X).getD x.st.a.toNat []) k)
    (l0 : m0.L.length ≤ 400) (l1 : m1.L.length ≤ 400) (lN : ((nsets v.N).getD i []).length ≤ 400) (hrow : ∀ y ∈ mAt (its m0.L) (its m1.L) x.st (nsets v.N) (D.map (fun y => its y.L)), y.1.length ≤ 1048576) (hrowN : ∀ y ∈ (nsets v.N).getD i [], y.1.length ≤ 1048576) :
    Calls Tryz.prog 62 #[.pointer (some ⟨tb, 0, none⟩), .int .i64 i, .agg #[.slice m0.A m0.L.length m0.k, .slice m1.A m1.L.length m1.k]] w
      (StepPost v W0 tb vp D X (sumL (mAt (its m0.L) (its m1.L) x.st (nsets v.N) (D.map (fun y => its y.L)))) (sumL ((nsets v.N).getD i [] ++ sumL (mAt (its m0.L) (its m1.L) x.st (nsets v.N) (D.map (fun y => its y.L))))) w) := by
  subst hD
  have hiN : D.length < v.N.length := by omega
  have hvw := hv
  have hv1 := hv.box
  have hxr := hv.q.2 v.Q[D.length] (List.getElem_mem hi)
  rw [hxq] at hxr
  obtain ⟨bQ, oQ, eqA, hbQ, c0, c1, c2, c3, c4, c5, c6⟩ := hv.q.1.sr hi
  rw [hxq] at c0 c1 c2 c3 c4 c5 c6
  obtain ⟨bN, oN, enA, hbN, n0, -⟩ := hv.n.nr hiN
  have hNi := hv.ns v.N[D.length] (List.getElem_mem hiN)
  rw [nsets_at hiN] at lN hrowN ⊢
  have HLM := hid (show (mAt (its m0.L) (its m1.L) x.st (nsets v.N) (D.map (fun y => its y.L))).length ≤ 1280000 by
    unfold mAt
    by_cases k1 : x.st.kind = 1
    · rw [if_pos k1]
      split
      · rw [its_len]; omega
      · rw [its_len]; omega
    · rw [if_neg k1]
      have := hok k1
      exact moreL_len this.la this.lb this.lA this.lB)
  have HMORE := hid (fun (k1 : x.st.kind ≠ 1) (w1 : World) (hb : Below w.heap.size w w1) => show Calls Tryz.prog 89 #[.pointer (some ⟨tb, 0, none⟩), .int .i64 (D.length : Int), .agg x.cells.toArray] w1 (MorePost x.st ((nsets v.N).getD x.st.a.toNat []) ((nsets v.N).getD x.st.b.toNat []) ((D.map (fun y => its y.L)).getD x.st.a.toNat []) ((D.map (fun y => its y.L)).getD x.st.b.toNat []) w1) from by
    obtain ⟨q1, q2, q3, q4, q5, q6⟩ := hr k1
    obtain ⟨ja, hja⟩ : ∃ j : Nat, x.st.a = (j : Int) := ⟨x.st.a.toNat, by omega⟩
    obtain ⟨jb, hjb⟩ : ∃ j : Nat, x.st.b = (j : Int) := ⟨x.st.b.toNat, by omega⟩
    have hT1 := hT.step hb
    have hv1 := hv.step (Below.step' hB hb)
    rw [hja, Int.toNat_natCast] at q4
    rw [hjb, Int.toNat_natCast] at q6
    have ha1 : ja < D.length := by omega
    have hb1 : jb < D.length := by omega
    have ha2 : ja < v.N.length := by omega
    have hb2 : jb < v.N.length := by omega
    have g1 := dsets_at (D := D) ha1
    have g2 := dsets_at (D := D) hb1
    have g3 := nsets_at ha2
    have g4 := nsets_at hb2
    have hok1 := hok k1
    rw [hja, hjb, Int.toNat_natCast, Int.toNat_natCast, g1, g2, g3, g4] at hok1 ⊢
    exact more_any v vp tb D.length ja jb x D dA dk _ w1 hv1 hT1.box (Row.of_ownS hT1.od) (fun y hy => (hT1.ds y hy).rowI) hiN (hxr.1.step (Below.step' hB hb)) hja hjb ha1 hb1 (by omega) (by omega) ⟨q1, q2⟩ hok1 (by
      have := hv1.gs D.length hiN hi
      rw [hxq] at this
      exact this))
  have HTBL := hid (show x.st.kind = 1 → mAt (its m0.L) (its m1.L) x.st (nsets v.N) (D.map (fun y => its y.L)) = if x.st.a = 0 then its m0.L else its m1.L from fun h => by unfold mAt; rw [if_pos h])
  have HMO := hid (show x.st.kind ≠ 1 → mAt (its m0.L) (its m1.L) x.st (nsets v.N) (D.map (fun y => its y.L)) = moreL x.st ((nsets v.N).getD x.st.a.toNat []) ((nsets v.N).getD x.st.b.toNat []) ((D.map (fun y => its y.L)).getD x.st.a.toNat []) ((D.map (fun y => its y.L)).getD x.st.b.toNat []) from fun h => by unfold mAt; rw [if_neg h])
  obtain ⟨LM, hLM⟩ : ∃ l, l = mAt (its m0.L) (its m1.L) x.st (nsets v.N) (D.map (fun y => its y.L)) := ⟨_, rfl⟩
  rw [← hLM] at HLM hrow HTBL HMO ⊢
  have HCM := hid (fun (k1 : x.st.kind ≠ 1) (w1 : World) (hb : Below w.heap.size w w1) => show Calls Tryz.prog 89 #[.pointer (some ⟨tb, 0, none⟩), .int .i64 (D.length : Int), .agg x.cells.toArray] w1 (CMPost x.st LM (grpN x.st ((nsets X).getD x.st.a.toNat [])) (grpS x.st ((nsets X).getD x.st.a.toNat [])) w1) from (HMORE.out k1 w1 hb).mono fun e w2 h => by
    obtain ⟨P, k, M, g, q1, q2, q3, q4, q6⟩ := h
    refine ⟨P, k, M, g, q1, by rw [HMO.out k1]; exact q2, q3, fun h8 => ?_, q6⟩
    obtain ⟨gb, e1, e2, e3⟩ := q4 h8
    exact ⟨gb, e1, e3.congr (fun k => (hG h8 k).1) (fun k => (hG h8 k).2)⟩)
  have HGY := hid (fun (z : NR) (w1 : World) (gv : Option Nat) (hgv : x.st.kind = 8 ∨ x.st.kind = 9 → ∃ gb, gv = some gb ∧ GM w1 gb (grpN x.st ((nsets X).getD x.st.a.toNat [])) (grpS x.st ((nsets X).getD x.st.a.toNat []))) => show ∀ h2 : X.length < v.Q.length, GAt w1 v.Q[X.length].st (nsets (X ++ [z])) gv from fun h2 hk => by
    have ex : v.Q[X.length] = x := by rw [← hxq]; simp [hX]
    rw [ex] at hk ⊢
    obtain ⟨gb, e1, e2⟩ := hgv hk
    have ha : x.st.a.toNat < X.length := by
      have hkk : x.st.kind ≠ 1 := by omega
      have := hr hkk; omega
    refine ⟨gb, e1, ?_⟩
    rw [nsets_at (by simp; omega), List.getElem_append_left ha]
    rw [nsets_at ha] at e2
    exact e2)
  have HRM := hid hrow
  have HRN := hid hrowN
  have HNI := hid hNi
  have HT := hid hT
  have HB := hid hB
  have H0 := hid h0
  have H1 := hid h1
  have HREF := hid href
  have HV := hid hv1
  have HQC := hid (show ∀ w1, Below W0.heap.size W0 w1 → ((w1.cell? ⟨bQ, oQ + D.length * 7, none⟩ = some (.int .i64 x.st.kind) ∧ w1.cell? ⟨bQ, oQ + D.length * 7 + 1, none⟩ = some (.int .i64 x.st.a) ∧ w1.cell? ⟨bQ, oQ + D.length * 7 + 2, none⟩ = some (.int .i64 x.st.b) ∧ w1.cell? ⟨bQ, oQ + D.length * 7 + 3, none⟩ = some (.int .i64 x.st.col)) ∧ (w1.cell? ⟨bQ, oQ + D.length * 7 + 4, none⟩ = some (.int .i64 x.st.op) ∧ w1.cell? ⟨bQ, oQ + D.length * 7 + 5, none⟩ = some (.int .i64 x.st.val) ∧ w1.cell? ⟨bQ, oQ + D.length * 7 + 6, none⟩ = some (.slice x.A x.st.list.length x.k)) ∧ bQ < w1.heap.size) from fun w1 hb => by
    have hc := (bcell hb).1
    exact ⟨⟨(hc bQ _ hbQ).trans c0, (hc bQ _ hbQ).trans c1, (hc bQ _ hbQ).trans c2, (hc bQ _ hbQ).trans c3⟩, ⟨(hc bQ _ hbQ).trans c4, (hc bQ _ hbQ).trans c5, (hc bQ _ hbQ).trans c6⟩, Nat.lt_of_lt_of_le hbQ hb.size⟩)
  have HNC := hid (show ∀ w1, Below W0.heap.size W0 w1 → w1.cell? ⟨bN, oN + D.length * 2, none⟩ = some (.slice v.N[D.length].A v.N[D.length].L.length v.N[D.length].k) ∧ bN < w1.heap.size from fun w1 hb => ⟨((bcell hb).1 bN _ hbN).trans n0, Nat.lt_of_lt_of_le hbN hb.size⟩)
  have hQl : v.Q.length ≤ 8 := hQ8
  have HXL := hid (show X.length ≤ 8 by omega)
  have hNl : v.N.length ≤ 8 := by omega
  have HVB := hid (show Blk W0 vp #[.slice (some ⟨bQ, oQ, none⟩) v.Q.length v.qk, .slice v.T0.A v.T0.L.length v.T0.k, .slice v.T1.A v.T1.L.length v.T1.k, .slice (some ⟨bN, oN, none⟩) v.N.length v.nk] 94 by rw [← eqA, ← enA]; exact HV.out)
  clear hv hvw hv1 hxr c0 c1 c2 c3 c4 c5 c6 n0 hNi HMORE HMO hLM hG hok hr hT hB h0 h1 href hrow hrowN hxq eqA enA hQ8 hX HV
  obtain ⟨nz, hnz⟩ : ∃ n, n = v.N[D.length] := ⟨_, rfl⟩
  rw [← hnz] at HNC HNI HRN lN ⊢
  clear hnz
  obtain ⟨NL, NA, Nk, Ng⟩ := nz
  obtain ⟨⟨sk, sa, sb, sc, so, sv, sl⟩, sA, sK⟩ := x
  obtain ⟨L0, A0, k0⟩ := m0
  obtain ⟨L1, A1, k1⟩ := m1
  simp only at HNC HNI HRN lN HQC HGY HCM HTBL h01 H0 H1 l0 l1 ⊢
  simp only [SR.cells] at HCM
  obtain ⟨W1, hW1⟩ : ∃ W : World, W = w.alloc (.cells #[.slice A0 L0.length k0, .slice A1 L1.length k1] 56) := ⟨_, rfl⟩
  have HB1 := hid (show Below w.heap.size w W1 by rw [hW1]; exact alloc_below (Below.refl _ _) _)
  have HXM := hid (show Blk W1 w.heap.size #[.slice A0 L0.length k0, .slice A1 L1.length k1] 56 by rw [hW1]; exact Blk.new _ _ _)
  have HXT := hid (HT.out.box.step HB1.out)
  have HXV := hid (HVB.out.step (HB.out.trans (HB1.out.mono HB.out.size)))
  have hmm := @run_makeMap Tryz.prog
  go_enter Tryz.func62, Tryz.ntmps62
  go_upto_region 1 with fail
  rw [← hW1]
  clear hW1
  obtain ⟨⟨c0, c1, c2, c3⟩, ⟨c4, c5, c6⟩, lQ⟩ := HQC.out W1 (HB.out.trans (HB1.out.mono HB.out.size))
  obtain ⟨cHXM, fHXM, sHXM, nHXM⟩ := HXM.out.all
  try simp only [cbox] at cHXM
  obtain ⟨cHXT, fHXT, sHXT, nHXT⟩ := HXT.out.all
  try simp only [cbox] at cHXT
  obtain ⟨cHXV, fHXV, sHXV, nHXV⟩ := HXV.out.all
  try simp only [cbox] at cHXV
  go_upto_region 4 with fail
  -- STOP-a
  obtain ⟨W4, hW4⟩ : ∃ W : World, W = (W1.alloc (.cells #[.int .i64 sk, .int .i64 sa, .int .i64 sb, .int .i64 sc, .int .i64 so, .int .i64 sv, .slice sA sl.length sK] 89)).alloc (.map #[] 0) := ⟨_, rfl⟩
  have HB4 := hid (show Below W1.heap.size W1 W4 by rw [hW4]; exact alloc_below (alloc_below (Below.refl _ _) _) _)
  have HXS := hid (show Blk W4 W1.heap.size #[.int .i64 sk, .int .i64 sa, .int .i64 sb, .int .i64 sc, .int .i64 so, .int .i64 sv, .slice sA sl.length sK] 89 by rw [hW4]; exact (Blk.new _ _ _).alloc _)
  clear cHXM fHXM sHXM nHXM
  clear cHXT fHXT sHXT nHXT
  clear cHXV fHXV sHXV nHXV
  rw [← hW4]
  clear hW4 hmm c0 c1 c2 c3 c4 c5 c6 lQ HXV
  replace HXM := hid (HXM.out.step HB4.out)
  replace HXT := hid (HXT.out.step HB4.out)
  have HBw := hid (Below.step' HB1.out HB4.out)
  clear HB1 HB4
  obtain ⟨cHXS, fHXS, sHXS, nHXS⟩ := HXS.out.all
  try simp only [cbox] at cHXS
  go_upto_if 25 with fail
  go_cut [8, 9] from 25 to 36 (fun s8 s9 wx => ∃ (P : Option Addr) (k : Nat) (M : List IR) (gm : Option Nat), s8 = .slice P M.length k ∧ s9 = .map gm ∧ Hid ((its M).Perm LM) ∧ Hid (RowI wx wx.heap.size P M) ∧ Hid (sk = 8 ∨ sk = 9 → ∃ gb, gm = some gb ∧ GM wx gb (grpN ⟨sk, sa, sb, sc, so, sv, sl⟩ ((nsets X).getD sa.toNat [])) (grpS ⟨sk, sa, sb, sc, so, sv, sl⟩ ((nsets X).getD sa.toNat []))) ∧ Hid (Below w.heap.size w wx))
  case first =>
    by_cases k1 : sk = 1
    · have t1 : (sk == 1) = true := by simp [k1]
      have HK := hid (show ¬ (sk = 8 ∨ sk = 9) by omega)
      have HL := hid (HTBL.out k1)
      rcases h01 k1 with rfl | rfl
      · have HM := hid (show its L0 = LM by rw [HL.out, if_pos rfl])
        clear k1
        obtain ⟨cHXM, fHXM, sHXM, nHXM⟩ := HXM.out.all
        try simp only [cbox] at cHXM
        go_wp2_with fail
        go_meet
        case rel => exact ⟨A0, k0, L0, _, rfl, rfl, hid (by rw [HM.out]), hid ((H0.out.step HB.out).step HBw.out), hid (fun h => absurd h HK.out), HBw⟩
      · have HM := hid (show its L1 = LM by rw [HL.out, if_neg (by omega)])
        clear k1
        obtain ⟨cHXM, fHXM, sHXM, nHXM⟩ := HXM.out.all
        try simp only [cbox] at cHXM
        go_wp2_with fail
        go_meet
        case rel => exact ⟨A1, k1, L1, _, rfl, rfl, hid (by rw [HM.out]), hid ((H1.out.step HB.out).step HBw.out), hid (fun h => absurd h HK.out), HBw⟩
    · have t1 : (sk == 1) = false := by simp [k1]
      have HC := hid (HCM.out k1 _ HBw.out)
      clear k1
      go_wp2_with fail
      refine HC.out.mono ?_
      rintro e w5 ⟨P, k, M, g, rfl, hp, hri, hgk, hb5⟩
      have HP := hid hp
      have HRI := hid hri
      have HGK := hid hgk
      have HB5 := hid hb5
      clear hp hri hgk hb5
      go_wp2_with fail
      go_meet
      -- STOP-b
      case rel => exact ⟨P, k, M, g, rfl, rfl, HP, HRI, HGK, hid (Below.step' HBw.out HB5.out)⟩
  case rest =>
    obtain ⟨P, k, M, gm, rfl, rfl, HPM, HRI, HGK, HBx⟩ := hcut
    obtain ⟨wo, rfl⟩ : ∃ wx : World, wx = wc := ⟨_, rfl⟩
    clear HXM HXT HXS cHXS fHXS sHXS nHXS HCM HTBL HQC HBw H0 H1
    have hlM : M.length ≤ 1280000 := by rw [← its_len, HPM.out.length_eq]; exact HLM.out
    have hrM : ∀ y ∈ M, y.row.length ≤ 1048576 := fun y hy => HRM.out _ (HPM.out.mem_iff.1 (its_mem hy))
    have HSM := hid (show ∀ w5, Below wo.heap.size wo w5 → ∀ A3, Row w5 w5.heap.size A3 [.slice P M.length k] → Calls Tryz.prog 36 #[.slice A3 1 1] w5 (ItsPost (sumL LM) w5) from fun w5 hb A3 h => by
      have := sum_any [⟨M, P, k⟩] A3 1 w5 (by simpa using h) (fun y hy => by rw [List.mem_singleton.1 hy]; exact HRI.out.step hb) (by simp; omega) (by simp) (by simpa using hrM)
      rw [show its (lrs [(⟨M, P, k⟩ : LR)]) = its M by simp [lrs], sumL_perm HPM.out] at this
      exact this)
    have HT2 := hid (HT.out.step HBx.out)
    have HB2 := hid (HB.out.trans (HBx.out.mono HB.out.size))
    have HNI2 := hid ((HNI.out.step HB2.out))
    have hLs : (sumL LM).length ≤ 1280000 := Nat.le_trans (sumL_len _) HLM.out
    have hLr : ∀ y ∈ sumL LM, y.1.length ≤ 1048576 := fun y hy => by
      obtain ⟨z, hz, e⟩ := sumL_mem hy
      rw [← e]; exact HRM.out z hz
    clear hrM
    go_wp2_with fail
    -- STOP-c
    have hba := alloc_below (Below.refl wo.heap.size wo) (.cells #[.slice P M.length k] 22)
    refine (HSM.out _ hba (some ⟨wo.heap.size, 0, none⟩) (Row.new' wo _ _ rfl rfl (by simp))).mono ?_
    rintro e w7 ⟨A7, k7, L7, rfl, hi7, ho7, hn7, hb7⟩
    have HB7 := hid (Below.step' hba hb7)
    have HS7 := hid (show SetIn w7 wo.heap.size A7 k7 L7 from SetIn.lo ⟨ho7, hn7⟩ (by simp))
    have HI7 := hid hi7
    have hl7 : L7.length ≤ 1280000 := by rw [← its_len, hi7]; exact hLs
    have hr7 : ∀ y ∈ L7, y.row.length ≤ 1048576 := fun y hy => by
      have := its_mem hy
      rw [hi7] at this
      exact hLr _ this
    have HT7 := hid (HT2.out.step HB7.out)
    have HBB7 := hid (HB2.out.trans (HB7.out.mono HB2.out.size))
    have HXV := hid (HVB.out.step HBB7.out)
    have HXT := hid HT7.out.box
    have HNI7 := hid (HNI2.out.step HB7.out)
    have HZ7 := hid (show W0.heap.size ≤ w7.heap.size from HBB7.out.size)
    have HZo := hid (show W0.heap.size ≤ wo.heap.size from HB2.out.size)
    clear hba ho7 hn7 hb7 hi7 HSM HT2 hLs hLr HRI HPM
    have HSM := hid (show ∀ w5, Below w7.heap.size w7 w5 → ∀ A3, Row w5 w5.heap.size A3 [.slice NA NL.length Nk, .slice A7 L7.length k7] → Calls Tryz.prog 36 #[.slice A3 2 2] w5 (ItsPost (sumL (its NL ++ sumL LM)) w5) from fun w5 hb A3 h => by
      have := sum_any [⟨NL, NA, Nk⟩, ⟨L7, A7, k7⟩] A3 2 w5 (by simpa using h) (fun y hy => by
          rcases List.mem_cons.1 hy with e | e
          · rw [e]; exact HNI7.out.step hb
          · rw [List.mem_singleton.1 e]; exact HS7.out.rowI.step hb) (by rw [its_len] at lN; simp; omega) (by simp) (fun y hy => by
          simp only [lrs, List.flatMap_cons, List.flatMap_nil, List.append_nil, List.mem_append] at hy
          rcases hy with e | e
          · exact HRN.out _ (its_mem e)
          · exact hr7 y e)
      rw [show its (lrs [(⟨NL, NA, Nk⟩ : LR), ⟨L7, A7, k7⟩]) = its NL ++ its L7 by simp [lrs, its], HI7.out] at this
      exact this)
    obtain ⟨cN, lNb⟩ := HNC.out w7 HBB7.out
    clear hr7
    obtain ⟨cHXV, fHXV, sHXV, nHXV⟩ := HXV.out.all
    try simp only [cbox] at cHXV
    obtain ⟨cHXT, fHXT, sHXT, nHXT⟩ := HXT.out.all
    try simp only [cbox] at cHXT
    go_wp2_with fail
    -- STOP-d
    have hba := alloc_below (Below.refl w7.heap.size w7) (.cells #[.slice NA NL.length Nk, .slice A7 L7.length k7] 22)
    refine (HSM.out _ hba (some ⟨w7.heap.size, 0, none⟩) (Row.new' w7 _ _ rfl rfl (by simp))).mono ?_
    rintro e w8 ⟨A9, k9, L9, rfl, hi9, ho9, hn9, hb9⟩
    clear cHXV fHXV sHXV nHXV
    clear cHXT fHXT sHXT nHXT
    have HB9 := hid (Below.step' hba hb9)
    have HS9 := hid (show SetIn w8 w7.heap.size A9 k9 L9 from SetIn.lo ⟨ho9, hn9⟩ (by simp))
    have HI9 := hid hi9
    have hl9 : L9.length ≤ 9223372036854775807 := by
      have := sumL_len (its NL ++ sumL LM)
      rw [← hi9, List.length_append, its_len, its_len] at this
      rw [its_len] at lN
      have h8 : (sumL LM).length ≤ 1280000 := by rw [← HI7.out, its_len]; exact hl7
      omega
    have HDN := hid (show ∀ w5, Below w8.heap.size w8 w5 → Calls Tryz.prog 35 #[.slice A9 L9.length k9] w5 (DonePost (doneE (sumL (its NL ++ sumL LM))) (.slice A9 L9.length k9) w5) from fun w5 hb => by
      have := done_any L9 A9 k9 w5 (HS9.out.rowI.1.step hb) (HS9.out.rowI.2.step hb) hl9
      rw [HI9.out] at this; exact this)
    have HS79 := hid (HS7.out.step HB9.out)
    have HT9 := hid (HT7.out.step HB9.out)
    have HBB9 := hid (HBB7.out.trans (HB9.out.mono HBB7.out.size))
    clear hba ho9 hn9 hb9 hi9 HSM HT7 hl9 HXV HXT HNI7 cN lNb HS7
    go_wp2_with fail
    refine (HDN.out _ (Below.refl _ _)).mono ?_
    rintro e w9 ⟨rfl, hb10⟩
    have HS710 := hid (HS79.out.step hb10)
    have HS910 := hid (HS9.out.step hb10)
    have HT10 := hid (HT9.out.step hb10)
    have HBB10 := hid (HBB9.out.trans (hb10.mono HBB9.out.size))
    have HGK10 := hid (show sk = 8 ∨ sk = 9 → ∃ gb, gm = some gb ∧ GM w9 gb (grpN ⟨sk, sa, sb, sc, so, sv, sl⟩ ((nsets X).getD sa.toNat [])) (grpS ⟨sk, sa, sb, sc, so, sv, sl⟩ ((nsets X).getD sa.toNat [])) from fun h => by
      obtain ⟨gb, e1, e2⟩ := HGK.out h
      exact ⟨gb, e1, e2.step (Below.step' (Below.step' HB7.out HB9.out) hb10)⟩)
    clear hb10 HDN HS79 HT9 HBB9 HGK HB7 HB9 HBB7 HB2 HBx HS9
    obtain ⟨E, hE⟩ : ∃ e, e = doneE (sumL (its NL ++ sumL LM)) := ⟨_, rfl⟩
    rw [← hE]
    have HE := hid hE
    clear hE
    obtain ⟨ZL, ZA, Zk, hzv, HSZ, HZL⟩ : ∃ ZL ZA Zk, (if E = 0 then Value.slice A9 L9.length k9 else .slice none 0 0) = .slice ZA ZL.length Zk ∧ Hid (SetIn w9 W0.heap.size ZA Zk ZL) ∧ Hid (E = 0 → its ZL = sumL (its NL ++ sumL LM)) := by
      by_cases q : E = 0
      · exact ⟨L9, A9, k9, if_pos q, hid (HS910.out.lo HZ7.out), hid fun _ => HI9.out⟩
      · exact ⟨[], none, 0, if_neg q, hid (SetIn.nil _ _), hid fun h => absurd h q⟩
    rw [hzv]
    have HSY := hid (show SetIn w9 W0.heap.size A7 k7 L7 from HS710.out.lo HZo.out)
    clear hzv HS910 HS710 HI9
    have HGZ := hid (HGY.out ⟨ZL, ZA, Zk, gm⟩)
    go_upto_region 9 with fail
    have HON := hid (show ∀ u ∈ ([.slice ZA ZL.length Zk, .map gm] : List Value), u.oneCell' = true from fun u hu => by
      rcases List.mem_cons.1 hu with e | e
      · rw [e]; rfl
      · rw [List.mem_singleton.1 e]; rfl)
    -- STOP-e
    have HRA := hid (show RegA W0 w9 W0.heap.size tb vp v.Q dA dk D xA xk X ⟨L7, A7, k7⟩ ⟨ZL, ZA, Zk, gm⟩ from ⟨HT10.out, HBB10.out, HSY.out, HSZ.out, HGZ.out _ _ HGK10.out⟩)
    have ra0 : RegA W0 (w9.drew) W0.heap.size tb vp v.Q dA dk D xA xk X ⟨L7, A7, k7⟩ ⟨ZL, ZA, Zk, gm⟩ := HRA.out.step (Below.refl _ _).drew
    obtain ⟨⟨p00, p01, p02⟩, -⟩ := TurnAt.cells' ra0.t
    have ra1 : RegA W0 ((w9.alloc (.cells #[.slice A7 L7.length k7] 22)).drew) W0.heap.size tb vp v.Q dA dk D xA xk X ⟨L7, A7, k7⟩ ⟨ZL, ZA, Zk, gm⟩ := HRA.out.step (alloc_below (Below.refl _ _) _).drew
    obtain ⟨⟨p10, p11, p12⟩, -⟩ := TurnAt.cells' ra1.t
    have ra2 : RegA W0 (((w9.alloc (.cells #[.slice A7 L7.length k7] 22)).alloc (.cells #[.slice ZA ZL.length Zk, .map gm] 97)).drew) W0.heap.size tb vp v.Q dA dk D xA xk X ⟨L7, A7, k7⟩ ⟨ZL, ZA, Zk, gm⟩ := HRA.out.step (alloc_below (alloc_below (Below.refl _ _) _) _).drew
    obtain ⟨⟨p20, p21, p22⟩, -⟩ := TurnAt.cells' ra2.t
    have ra3 : RegA W0 (((w9.alloc (.cells #[.slice ZA ZL.length Zk, .map gm] 97)).alloc (.cells #[.slice A7 L7.length k7] 22)).drew) W0.heap.size tb vp v.Q dA dk D xA xk X ⟨L7, A7, k7⟩ ⟨ZL, ZA, Zk, gm⟩ := HRA.out.step (alloc_below (alloc_below (Below.refl _ _) _) _).drew
    obtain ⟨⟨p30, p31, p32⟩, -⟩ := TurnAt.cells' ra3.t
    have ra4 : RegA W0 ((w9.alloc (.cells #[.slice ZA ZL.length Zk, .map gm] 97)).drew) W0.heap.size tb vp v.Q dA dk D xA xk X ⟨L7, A7, k7⟩ ⟨ZL, ZA, Zk, gm⟩ := HRA.out.step (alloc_below (Below.refl _ _) _).drew
    obtain ⟨⟨p40, p41, p42⟩, -⟩ := TurnAt.cells' ra4.t
    have rd1 : Row ((w9.alloc (.cells #[.slice A7 L7.length k7] 22)).drew) ((w9.alloc (.cells #[.slice A7 L7.length k7] 22)).drew).heap.size (some ⟨w9.heap.size, 0, none⟩) [.slice A7 L7.length k7] := blk_row (Blk.drew (Blk.new w9 _ _))
    have rd2 : Row (((w9.alloc (.cells #[.slice A7 L7.length k7] 22)).alloc (.cells #[.slice ZA ZL.length Zk, .map gm] 97)).drew) (((w9.alloc (.cells #[.slice A7 L7.length k7] 22)).alloc (.cells #[.slice ZA ZL.length Zk, .map gm] 97)).drew).heap.size (some ⟨w9.heap.size, 0, none⟩) [.slice A7 L7.length k7] := blk_row (Blk.drew ((Blk.new w9 _ _).alloc _))
    have rd3 : Row (((w9.alloc (.cells #[.slice ZA ZL.length Zk, .map gm] 97)).alloc (.cells #[.slice A7 L7.length k7] 22)).drew) (((w9.alloc (.cells #[.slice ZA ZL.length Zk, .map gm] 97)).alloc (.cells #[.slice A7 L7.length k7] 22)).drew).heap.size (some ⟨w9.heap.size + 1, 0, none⟩) [.slice A7 L7.length k7] := blk_row (Blk.drew (Blk.new' _ _ _ (by simp)))
    have xb2 : Blk (((w9.alloc (.cells #[.slice A7 L7.length k7] 22)).alloc (.cells #[.slice ZA ZL.length Zk, .map gm] 97)).drew) (w9.heap.size + 1) #[.slice ZA ZL.length Zk, .map gm] 97 := Blk.drew (Blk.new' _ _ _ (by simp))
    have xb3 : Blk (((w9.alloc (.cells #[.slice ZA ZL.length Zk, .map gm] 97)).alloc (.cells #[.slice A7 L7.length k7] 22)).drew) w9.heap.size #[.slice ZA ZL.length Zk, .map gm] 97 := Blk.drew ((Blk.new w9 _ _).alloc _)
    have HTL := hid HT10.out.box.lt
    have htl1 : tb < w9.heap.size := HTL.out
    have ho1 : ∀ u ∈ ([.slice A7 L7.length k7] : List Value), u.oneCell' = true := fun u hu => by rw [List.mem_singleton.1 hu]; rfl
    have ho2 : ∀ u ∈ ([.slice ZA ZL.length Zk, .map gm] : List Value), u.oneCell' = true := HON.out
    have hm1 : D.length + 1 ≤ maxLen := by simp only [maxLen]; omega
    have hm2 : (D.length + 1) * 24 ≤ 140737488355328 := by omega
    have hm3 : X.length + 1 ≤ maxLen := by simp only [maxLen]; have := HXL.out; omega
    have hm4 : (X.length + 1) * 32 ≤ 140737488355328 := by have := HXL.out; omega
    have HHO := hid (And.intro ho1 ho2)
    clear ho1 ho2
    go_region_law
      (first
        | (go_split_ands; (with_reducible refine atwI ((w9.alloc (.cells #[.slice A7 L7.length k7] 22)).drew) ?_); refine step_append_row elem_dels (by rfl) _ _ (by rfl) W0.heap.size (.slice dA D.length dk) D.length (llcells D) (by rfl) (RegA.od ra1) _ 1 1 _ [.slice A7 L7.length k7] (by rfl) (by rfl) rd1 HHO.out.1 hm1 hm2 (RegA.hlo ra1) ?_; intro v5 w5 hown5 hg5 hif5; obtain ⟨A5, k5, rfl⟩ := own_formS hown5; have c5 := RegA.appD ra1 hg5 hown5; obtain ⟨⟨y0, y1, y2⟩, y3⟩ := TurnAt.cells' c5.t; have y4 := c5.t.box.lt; obtain ⟨⟨yy0, yy1, yy2⟩, yy3⟩ := TurnAt.cells' (RegB.step c5 (alloc_below (Below.refl _ _) (.cells #[.slice ZA ZL.length Zk, .map gm] 97))).t)
        | (go_split_ands; (with_reducible refine atwI (((w9.alloc (.cells #[.slice A7 L7.length k7] 22)).alloc (.cells #[.slice ZA ZL.length Zk, .map gm] 97)).drew) ?_); refine step_append_row elem_dels (by rfl) _ _ (by rfl) W0.heap.size (.slice dA D.length dk) D.length (llcells D) (by rfl) (RegA.od ra2) _ 1 1 _ [.slice A7 L7.length k7] (by rfl) (by rfl) rd2 HHO.out.1 hm1 hm2 (RegA.hlo ra2) ?_; intro v5 w5 hown5 hg5 hif5; obtain ⟨A5, k5, rfl⟩ := own_formS hown5; have c5 := RegA.appD ra2 hg5 hown5; have x5 := blkD xb2 ra2 hg5; obtain ⟨⟨y0, y1, y2⟩, y3⟩ := TurnAt.cells' c5.t; have y4 := c5.t.box.lt; obtain ⟨⟨yy0, yy1, yy2⟩, yy3⟩ := TurnAt.cells' (RegB.step c5 (alloc_below (Below.refl _ _) (.cells #[.slice ZA ZL.length Zk, .map gm] 97))).t)
        | (go_split_ands; (with_reducible refine atwI (((w9.alloc (.cells #[.slice ZA ZL.length Zk, .map gm] 97)).alloc (.cells #[.slice A7 L7.length k7] 22)).drew) ?_); refine step_append_row elem_dels (by rfl) _ _ (by rfl) W0.heap.size (.slice dA D.length dk) D.length (llcells D) (by rfl) (RegA.od ra3) _ 1 1 _ [.slice A7 L7.length k7] (by rfl) (by rfl) rd3 HHO.out.1 hm1 hm2 (RegA.hlo ra3) ?_; intro v5 w5 hown5 hg5 hif5; obtain ⟨A5, k5, rfl⟩ := own_formS hown5; have c5 := RegA.appD ra3 hg5 hown5; have x5 := blkD xb3 ra3 hg5; obtain ⟨⟨y0, y1, y2⟩, y3⟩ := TurnAt.cells' c5.t; have y4 := c5.t.box.lt; obtain ⟨⟨yy0, yy1, yy2⟩, yy3⟩ := TurnAt.cells' (RegB.step c5 (alloc_below (Below.refl _ _) (.cells #[.slice ZA ZL.length Zk, .map gm] 97))).t)
        | (go_split_ands; (with_reducible refine atwI (w5.alloc (.cells #[.slice ZA ZL.length Zk, .map gm] 97)) ?_); refine step_append_row elem_node (by rfl) _ _ (by rfl) W0.heap.size (.slice xA X.length xk) X.length (ncells X) (by rfl) (RegB.ox (RegB.step c5 (alloc_below (Below.refl _ _) (.cells #[.slice ZA ZL.length Zk, .map gm] 97)))) _ 1 1 _ [.slice ZA ZL.length Zk, .map gm] (by rfl) (by rfl) (blk_row (Blk.new w5 #[.slice ZA ZL.length Zk, .map gm] 97)) HHO.out.2 hm3 hm4 (RegB.hlo (RegB.step c5 (alloc_below (Below.refl _ _) (.cells #[.slice ZA ZL.length Zk, .map gm] 97)))) ?_; intro v7 w7 hown7 hg7 hif7; obtain ⟨A8, k8, rfl⟩ := own_formS hown7; have c7 := RegB.appX (RegB.step c5 (alloc_below (Below.refl _ _) (.cells #[.slice ZA ZL.length Zk, .map gm] 97))) HREF.out hg7 hown7; obtain ⟨⟨z0, z1, z2⟩, z3, z4⟩ := TurnAt.cells' c7.1)
        | (go_split_ands; (with_reducible refine atwI (w5) ?_); refine step_append_row elem_node (by rfl) _ _ (by rfl) W0.heap.size (.slice xA X.length xk) X.length (ncells X) (by rfl) (RegB.ox c5) _ 1 1 _ [.slice ZA ZL.length Zk, .map gm] (by rfl) (by rfl) (blk_row x5) HHO.out.2 hm3 hm4 (RegB.hlo c5) ?_; intro v7 w7 hown7 hg7 hif7; obtain ⟨A8, k8, rfl⟩ := own_formS hown7; have c7 := RegB.appX c5 HREF.out hg7 hown7; obtain ⟨⟨z0, z1, z2⟩, z3, z4⟩ := TurnAt.cells' c7.1))
    -- STOP-f
    all_goals
      go_wp2_with fail
      go_ret
      exact step_end c7.1 c7.2 HE.out HI7.out HZL.out
end Go.Proofs.YtldlmkfigjicgaaGreatDoor
/- inc.copied, inc.again. -/
namespace Go.Proofs.YtldlmkfigjicgaaGreatDoor
set_option linter.unusedVariables false
set_option linter.unusedSimpArgs false
open Go.ChangeShapes Go.WideShapes Go.ChangeAt Go.RowKit

theorem elem_stp : Elem Tryz.prog 43 89 7 72 := ⟨Tryz.underlying43, by
  obtain ⟨i, hi, hz, hs, hb⟩ := info_parts (P := Tryz.prog) (e := 89) (z := .agg #[.int .i64 0, .int .i64 0, .int .i64 0, .int .i64 0, .int .i64 0, .int .i64 0, .slice none 0 0]) (size := 7) (bytes := 72) (by kernel_rfl)
  exact ⟨i, _, hi, hz, hs, hb, rfl⟩, by decide⟩
theorem scells_one (L : List SR) : ∀ u ∈ scells L, u.oneCell' = true := by
  intro u hu
  obtain ⟨x, -, hx⟩ := List.mem_flatMap.1 hu
  simp only [SR.cells, List.mem_cons, List.not_mem_nil, or_false] at hx
  rcases hx with rfl | rfl | rfl | rfl | rfl | rfl | rfl <;> rfl
theorem scells_snoc (L : List SR) (x : SR) : scells (L ++ [x]) = scells L ++ x.cells := by rw [scells, List.flatMap_append]; simp
/-- The lists of steps that a call has made: in blocks of their own. -/
def StepsNew (w : World) (lo : Nat) (v : Value) (M : List SR) : Prop := ∀ x ∈ M, RowOwn w x.A x.st.list x.k ∧ NewAt lo x.A ∧ (∀ b off q, x.A = some ⟨b, off, q⟩ → some b ≠ v.ownBlock ∧ b < w.heap.size) ∧ x.st.list.length ≤ 1048576
theorem StepsNew.nil (w : World) (lo : Nat) (v : Value) : StepsNew w lo v [] := fun x hx => by simp at hx
theorem StepsNew.step {w w' : World} {lo : Nat} {v : Value} {M : List SR} (h : StepsNew w lo v M) (hb : Below w.heap.size w w') : StepsNew w' lo v M := fun x hx => by
  obtain ⟨h1, h2, h3, h4⟩ := h x hx
  exact ⟨h1.step hb, h2, fun b off q e => ⟨(h3 b off q e).1, Nat.lt_of_lt_of_le (h3 b off q e).2 hb.size⟩, h4⟩
theorem StepsNew.grown {w w' : World} {lo : Nat} {v v' : Value} {M : List SR} (h : StepsNew w lo v M) (hg : w.grownBy w' v.ownBlock) (hv : v'.ownBlock = v.ownBlock ∨ v'.ownBlock = some w.heap.size) : StepsNew w' lo v' M := fun x hx => by
  obtain ⟨h1, h2, h3, h4⟩ := h x hx
  refine ⟨h1.grown_ne (Nat.le_refl _) hg (fun b off q e => (h3 b off q e).1), h2, fun b off q e => ⟨?_, Nat.lt_of_lt_of_le (h3 b off q e).2 hg.size⟩, h4⟩
  rcases hv with hv | hv
  · rw [hv]; exact (h3 b off q e).1
  · rw [hv]; intro e2; injection e2 with e2; have := (h3 b off q e).2; omega
theorem StepsNew.grownNe {w w' : World} {lo : Nat} {v : Value} {M : List SR} {r : Option Nat} (h : StepsNew w lo v M) (hg : w.grownBy w' r) (hr : ∀ x ∈ M, ∀ b off q, x.A = some ⟨b, off, q⟩ → some b ≠ r) : StepsNew w' lo v M := fun x hx => by
  obtain ⟨h1, h2, h3, h4⟩ := h x hx
  exact ⟨h1.grown_ne (Nat.le_refl _) hg (hr x hx), h2, fun b off q e => ⟨(h3 b off q e).1, Nat.lt_of_lt_of_le (h3 b off q e).2 hg.size⟩, h4⟩
theorem StepsNew.snoc {w : World} {lo : Nat} {v : Value} {M : List SR} (h : StepsNew w lo v M) {x : SR} (h1 : RowOwn w x.A x.st.list x.k) (h2 : NewAt lo x.A) (h3 : ∀ b off q, x.A = some ⟨b, off, q⟩ → some b ≠ v.ownBlock ∧ b < w.heap.size) (h4 : x.st.list.length ≤ 1048576) : StepsNew w lo v (M ++ [x]) := fun y hy => by
  rcases List.mem_append.1 hy with e | e
  · exact h y e
  · rw [List.mem_singleton.1 e]; exact ⟨h1, h2, h3, h4⟩
theorem StepsNew.rows {w : World} {lo : Nat} {v : Value} {M : List SR} (h : StepsNew w lo v M) : StepsAt w w.heap.size M := fun x hx => ⟨(h x hx).1.row, Nat.le_trans (h x hx).2.2.2 (by decide)⟩
/-- A query of a call's own making. -/
def StpsPost (S : List St) (w : World) (e : Ending) (w' : World) : Prop :=
  ∃ (A : Option Addr) (k : Nat) (M : List SR), e = .returned (.slice A M.length k) ∧ sts M = S ∧ w'.ownsRow w.heap.size 89 7 (.slice A M.length k) M.length (scells M) ∧ StepsNew w' w.heap.size (.slice A M.length k) M ∧ Below w.heap.size w w'
set_option maxHeartbeats 4000000 in
set_option maxRecDepth 100000 in
theorem icopied_any (L : List SR) (A : Option Addr) (c : Nat) (w : World) (hr : RowS w w.heap.size A L) (hl : L.length ≤ 1048576) (hll : ∀ x ∈ L, x.st.list.length ≤ 1048576) :
    Calls Tryz.prog 59 #[.slice A L.length c] w (StpsPost (sts L) w) := by
  have HR := hid hr
  have HLL := hid hll
  clear hr hll
  go_enter Tryz.func59, Tryz.ntmps59
  go_wp2_with fail
  -- STOP-a
  go_loopw [3, 8] (fun s3 s8 wr => ∃ (M : List SR), M.length ≤ L.length ∧ s8 = .int .i64 M.length ∧ Hid (sts M = (sts L).take M.length) ∧ Hid (wr.ownsRow w.heap.size 89 7 s3 M.length (scells M)) ∧ Hid (StepsNew wr w.heap.size s3 M) ∧ Hid (Below w.heap.size w wr)) (fun _ s8 _ => L.length - (intOf s8).toNat)
  case atStart => exact ⟨[], by simp, rfl, hid rfl, hid (World.ownsRow_nil _ _ _ _), hid (StepsNew.nil _ _ _), hid (Below.refl _ _)⟩
  case round =>
    obtain ⟨M, hi, rfl, HST, HOWN, HNEW, HB⟩ := hrel
    obtain ⟨wo, rfl⟩ : ∃ wx : World, wx = wr := ⟨_, rfl⟩
    obtain ⟨A3, c3, rfl⟩ := own_formS HOWN.out
    have hso := HB.out.size
    by_cases hlt : M.length < L.length
    · obtain ⟨b, off, rfl, hb, q0, q1, q2, q3, q4, q5, q6⟩ := (HR.out.1.step HB.out).sr hlt
      have HRW := hid (((HR.out.2.step HB.out) L[M.length] (List.getElem_mem hlt)).1)
      have hlx := HLL.out L[M.length] (List.getElem_mem hlt)
      have HTK := hid (show (sts L).take (M.length + 1) = (sts L).take M.length ++ [L[M.length].st] by rw [List.take_succ_eq_append_getElem (by simpa using hlt)]; simp)
      generalize L[M.length] = x at *
      obtain ⟨⟨sk, sa, sb, sc, so, sv, sl⟩, sA, sK⟩ := x
      simp only at q0 q1 q2 q3 q4 q5 q6 HRW hlx HTK
      have hnb : (b = wo.heap.size) = False := by simp; omega
      obtain ⟨W1, hW1⟩ : ∃ W : World, W = wo.alloc (.cells #[.int .i64 sk, .int .i64 sa, .int .i64 sb, .int .i64 sc, .int .i64 so, .int .i64 sv, .slice sA sl.length sK] 89) := ⟨_, rfl⟩
      have HB1 := hid (show Below wo.heap.size wo W1 by rw [hW1]; exact alloc_below (Below.refl _ _) _)
      have HXS := hid (show Blk W1 wo.heap.size #[.int .i64 sk, .int .i64 sa, .int .i64 sb, .int .i64 sc, .int .i64 so, .int .i64 sv, .slice sA sl.length sK] 89 by rw [hW1]; exact Blk.new _ _ _)
      have hsW1 : wo.heap.size < W1.heap.size := by rw [hW1]; simp
      have HCL := hid (cloneI_any sl sA sK W1 (HRW.out.step HB1.out) hlx)
      go_upto_region 5 with fail
      rw [← hW1]
      clear hW1 q0 q1 q2 q3 q4 q5 q6
      obtain ⟨cHXS, fHXS, sHXS, nHXS⟩ := HXS.out.all
      try simp only [cbox] at cHXS
      go_wp2_with fail
      -- STOP-b
      refine HCL.out.mono ?_
      rintro e w2 ⟨A2, c2, rfl, hrow2, hnew2, hin2, hb2⟩
      clear cHXS fHXS sHXS nHXS
      replace HXS := hid (HXS.out.step hb2)
      have HB2 := hid (Below.step' HB1.out hb2)
      have HR2 := hid hrow2
      have HN2 := hid hnew2
      have HI2 := hid hin2
      have hs12 := HB1.out.size
      have hs2 := hb2.size
      clear hrow2 hnew2 hin2 hb2 HCL HB1 HRW
      obtain ⟨cHXS, fHXS, sHXS, nHXS⟩ := HXS.out.all
      try simp only [cbox] at cHXS
      go_upto_region 6 with fail
      -- STOP-c
      clear cHXS fHXS sHXS nHXS
      obtain ⟨W3, hW3⟩ : ∃ W : World, W = w2.setCell ⟨wo.heap.size, 6, none⟩ (.slice A2 sl.length c2) := ⟨_, rfl⟩
      rw [← hW3]
      have hgs : w2.grownBy W3 (some wo.heap.size) := by rw [hW3]; exact grown_setS _ _ _ _
      have HXS3 := hid (show Blk W3 wo.heap.size #[.int .i64 sk, .int .i64 sa, .int .i64 sb, .int .i64 sc, .int .i64 so, .int .i64 sv, .slice A2 sl.length c2] 89 by rw [hW3]; exact (HXS.out.set 6 _).eq rfl)
      clear hW3
      have hlo := HOWN.out.lt
      have HO3 := hid (own_ne_grown (own_laterS HOWN.out HB2.out) hgs (fun q e e2 => by injection e2 with e2; have := (hlo q e).2; omega))
      have HN3 := hid ((HNEW.out.step HB2.out).grownNe hgs (fun x hx b off q e e2 => by injection e2 with e2; have := ((HNEW.out x hx).2.2.1 b off q e).2; omega))
      have HR3 := hid (HR2.out.grown_ne (Nat.le_refl _) hgs (fun b off q e e2 => by injection e2 with e2; have := HN2.out b off q e; omega))
      have HB3 := hid ((HB.out.trans (HB2.out.mono hso)).grown hgs (by omega) (fun g e => by injection e with e; omega))
      have hs3 := hgs.size
      have HLO := hid hlo
      clear hlo hgs HXS HNEW HR2
      obtain ⟨cHXS3, fHXS3, sHXS3, nHXS3⟩ := HXS3.out.all
      try simp only [cbox] at cHXS3
      go_wp2_with (at_builtin; refine wpList_append_row elem_stp rfl _ _ rfl w.heap.size (.slice A3 M.length c3) M.length (scells M) rfl (HO3.out.alloc _) (some ⟨W3.heap.size, 0, none⟩) 1 1 (W3.heap.size + 1) [.int .i64 sk, .int .i64 sa, .int .i64 sb, .int .i64 sc, .int .i64 so, .int .i64 sv, .slice A2 sl.length c2] rfl rfl (by exact Row.new' W3 _ _ rfl rfl (Nat.lt_succ_self _)) (scells_one [⟨⟨sk, sa, sb, sc, so, sv, sl⟩, A2, c2⟩]) ?_ ?_ ?_ ?_; rotate_right; intro v7 w7 hown7 hg7 hif7; rotate_left; (simp only [maxLen]; omega); (omega); (simp; omega))
      have HO7 := hid hown7
      have HG7 := hid hg7
      have HI7 := hid hif7
      clear hown7 hg7 hif7
      -- STOP-d
      go_roundw
      case rel =>
        have hba := alloc_below (Below.refl W3.heap.size W3) (.cells #[.int .i64 sk, .int .i64 sa, .int .i64 sb, .int .i64 sc, .int .i64 so, .int .i64 sv, .slice A2 sl.length c2] 89)
        have hsa := hba.size
        have hs7 := HG7.out.size
        refine ⟨M ++ [⟨⟨sk, sa, sb, sc, so, sv, sl⟩, A2, c2⟩], by simp; omega, congrArg (Value.int .i64) (by simp), hid ?_, hid ?_, hid ?_, hid ((HB3.out.trans (hba.mono (by omega))).grown HG7.out (by omega) (fun q e => by have := (HLO.out q e).1; omega))⟩
        · rw [List.length_append, List.length_singleton, HTK.out, sts, List.map_append, show M.map SR.st = sts M from rfl, HST.out]; rfl
        · rw [scells_snoc, List.length_append]
          exact HO7.out
        · have hne : ∀ b off q, A2 = some ⟨b, off, q⟩ → some b ≠ (Value.slice A3 M.length c3).ownBlock := fun b off q e e2 => by
            have h1 := HN2.out b off q e
            have h2 := (HLO.out b e2.symm).2
            omega
          refine ((HN3.out.step hba).grown HG7.out HI7.out).snoc ((HR3.out.step hba).grown_ne (Nat.le_refl _) HG7.out hne) (newAt_le HN2.out (by omega)) (fun b off q e => ?_) hlx
          have := HI2.out b off q e
          refine ⟨?_, by omega⟩
          rcases HI7.out with h | h
          · rw [h]; exact hne b off q e
          · rw [h]; intro e2; injection e2 with e2; omega
      case measure => simp [intOf]; omega
    · have hik : M.length = L.length := by omega
      have HIK := hid hik
      clear hik
      go_wp2_with fail
      -- STOP-e
      go_ret
      exact ⟨A3, c3, M, rfl, by rw [HST.out, HIK.out]; exact List.take_of_length_le (by rw [List.length_map]; exact Nat.le_refl _), HOWN.out, HNEW.out, HB.out⟩
/-- again: a set, with rows of its own. -/
theorem again_any (M : List IR) (A : Option Addr) (c : Nat) (w : World) (hr : RowI w w.heap.size A M) (hl : M.length ≤ 4194304) (hrl : ∀ x ∈ M, x.row.length ≤ 1048576) :
    Calls Tryz.prog 63 #[.slice A M.length c] w (ItsPost (sumL (its M)) w) := by
  have HSM := hid (show ∀ w5, Below w.heap.size w w5 → ∀ A3, Row w5 w5.heap.size A3 [.slice A M.length c] → Calls Tryz.prog 36 #[.slice A3 1 1] w5 (ItsPost (sumL (its M)) w5) from fun w5 hb A3 h => by
    have := sum_any [⟨M, A, c⟩] A3 1 w5 (by simpa using h) (fun y hy => by rw [List.mem_singleton.1 hy]; exact hr.step hb) (by simp; omega) (by simp) (by simpa using hrl)
    rw [show its (lrs [(⟨M, A, c⟩ : LR)]) = its M by simp [lrs]] at this
    exact this)
  clear hr hrl
  go_enter Tryz.func63, Tryz.ntmps63
  go_wp2_with fail
  have hba := alloc_below (Below.refl w.heap.size w) (.cells #[.slice A M.length c] 22)
  refine (HSM.out _ hba (some ⟨w.heap.size, 0, none⟩) (Row.new' w _ _ rfl rfl (by simp))).mono ?_
  rintro e w7 ⟨A7, k7, L7, rfl, hi7, ho7, hn7, hb7⟩
  go_wp2_with fail
  go_ret
  exact ⟨A7, k7, L7, rfl, hi7, own_baseS ho7 (by simp), fun x hx => by
    obtain ⟨q1, q2, q3, q4⟩ := hn7 x hx
    exact ⟨q1, newAt_le q2 (by simp), q3, q4⟩, Below.step' hba hb7⟩
end Go.Proofs.YtldlmkfigjicgaaGreatDoor
/- What stands while one block turns. -/
namespace Go.Proofs.YtldlmkfigjicgaaGreatDoor
set_option linter.unusedVariables false
set_option linter.unusedSimpArgs false
open Go.ChangeShapes Go.WideShapes Go.ChangeAt Go.RowKit

/-! what stands while one block turns -/
def Off (AV : Nat → Prop) (A : Option Addr) (n : Nat) : Prop := n = 0 ∨ ∀ b off q, A = some ⟨b, off, q⟩ → ¬ AV b
theorem Off.imp {AV BV : Nat → Prop} {A : Option Addr} {n : Nat} (h : Off AV A n) (hi : ∀ b, BV b → AV b) : Off BV A n := Or.imp id (fun h b off q e hb => h b off q e (hi b hb)) h
theorem Row.kept' {w w' : World} {AV : Nat → Prop} {A : Option Addr} {xs : List Value} {n r : Nat} (h : Row w w.heap.size A xs) (ho : Off AV A n) (hn : n = 0 → xs = []) (hg : w.grownBy w' (some r)) (hr : AV r) : Row w' w'.heap.size A xs := by
  rcases ho with ho | ho
  · rw [hn ho]; exact Row.nil
  · exact (h.grown_ne (Nat.le_refl _) hg (fun b off q e e2 => by injection e2 with e2; subst e2; exact ho b off q e hr)).more hg.size
structure IOff (AV : Nat → Prop) (A : Option Addr) (L : List IR) : Prop where
  a : Off AV A L.length
  r : ∀ x ∈ L, Off AV x.A x.row.length
theorem IOff.imp {AV BV : Nat → Prop} {A : Option Addr} {L : List IR} (h : IOff AV A L) (hi : ∀ b, BV b → AV b) : IOff BV A L := ⟨h.a.imp hi, fun x hx => (h.r x hx).imp hi⟩
theorem RowI.kept' {w w' : World} {AV : Nat → Prop} {A : Option Addr} {L : List IR} {r : Nat} (h : RowI w w.heap.size A L) (ho : IOff AV A L) (hg : w.grownBy w' (some r)) (hr : AV r) : RowI w' w'.heap.size A L :=
  ⟨h.1.kept' ho.a (fun e => by rw [List.length_eq_zero_iff.1 e]; rfl) hg hr, fun x hx => ⟨(h.2 x hx).1.kept' (ho.r x hx) (fun e => by rw [List.length_eq_zero_iff.1 e]; rfl) hg hr, (h.2 x hx).2⟩⟩
theorem SetIn.off {w : World} {lo : Nat} {A : Option Addr} {k : Nat} {L : List IR} (h : SetIn w lo A k L) {AV : Nat → Prop} (hA : ∀ b, AV b → b < lo) : IOff AV A L :=
  ⟨.inr fun b off q e hb => by have := own_newS h.1 (Nat.le_refl _) b off q e; have := hA b hb; omega, fun x hx => .inr fun b off q e hb => by have := (h.2 x hx).2.1 b off q e; have := hA b hb; omega⟩
structure SOff (AV : Nat → Prop) (A : Option Addr) (L : List SR) : Prop where
  a : Off AV A L.length
  r : ∀ x ∈ L, Off AV x.A x.st.list.length
theorem RowS.kept' {w w' : World} {AV : Nat → Prop} {A : Option Addr} {L : List SR} {r : Nat} (h : RowS w w.heap.size A L) (ho : SOff AV A L) (hg : w.grownBy w' (some r)) (hr : AV r) : RowS w' w'.heap.size A L :=
  ⟨h.1.kept' ho.a (fun e => by rw [List.length_eq_zero_iff.1 e]; rfl) hg hr, fun x hx => ⟨(h.2 x hx).1.kept' (ho.r x hx) (fun e => by rw [List.length_eq_zero_iff.1 e]; rfl) hg hr, (h.2 x hx).2⟩⟩
/-- A view's data lie in no block that is turned. -/
structure VR.off (AV : Nat → Prop) (v : VR) : Prop where
  q : SOff AV v.qA v.Q
  t0 : IOff AV v.T0.A v.T0.L
  t1 : IOff AV v.T1.A v.T1.L
  n : Off AV v.nA v.N.length
  ns : ∀ x ∈ v.N, IOff AV x.A x.L
theorem VR.off.imp {AV BV : Nat → Prop} {v : VR} (h : v.off AV) (hi : ∀ b, BV b → AV b) : v.off BV :=
  ⟨⟨h.q.a.imp hi, fun x hx => (h.q.r x hx).imp hi⟩, h.t0.imp hi, h.t1.imp hi, h.n.imp hi, fun x hx => (h.ns x hx).imp hi⟩
theorem VR.at_.kept {w w' : World} {vp r : Nat} {v : VR} {AV : Nat → Prop} (h : v.at_ w vp) (ho : v.off AV) (hg : w.grownBy w' (some r)) (hr : AV r) (hne : vp ≠ r) (hc : ∃ cur T d, w.heap[r]? = some (Obj.cells cur T d)) : v.at_ w' vp :=
  ⟨h.box.grown hg (fun e => by injection e with e; exact hne e), h.q.kept' ho.q hg hr, h.t0.kept' ho.t0 hg hr, h.t1.kept' ho.t1 hg hr, h.n.kept' ho.n (fun e => by rw [List.length_eq_zero_iff.1 e]; rfl) hg hr, fun x hx => (h.ns x hx).kept' (ho.ns x hx) hg hr,
    fun i h1 h2 => (h.gs i h1 h2).cells hg (fun g e => by injection e with e; subst e; exact hc)⟩
def VR.vs (v : VR) : VS := ⟨sts v.Q, its v.T0.L, its v.T1.L, nsets v.N⟩
theorem Row.off_new {w : World} {AV : Nat → Prop} {A : Option Addr} {xs : List Value} {n : Nat} (h : Row w w.heap.size A xs) (ho : Off AV A n) (hn : xs = [] → n = 0) : Off (fun b => AV b ∨ w.heap.size ≤ b) A n := by
  rcases ho with ho | ho
  · exact .inl ho
  · rcases h with h | ⟨b, off, e, hb, -⟩
    · exact .inl (hn h)
    · exact .inr fun b' off' q' e' hb' => by
        rcases hb' with hb' | hb'
        · exact ho b' off' q' e' hb'
        · rw [e] at e'; injection e' with e'; injection e' with e'; omega
theorem flat_nil {α : Type} {f : α → List Value} {l : List α} (hf : ∀ x, f x ≠ []) (h : l.flatMap f = []) : l.length = 0 := by
  cases l with
  | nil => rfl
  | cons x l => rw [List.flatMap_cons] at h; exact absurd (List.append_eq_nil_iff.1 h).1 (hf x)
theorem RowI.off_new {w : World} {AV : Nat → Prop} {A : Option Addr} {L : List IR} (h : RowI w w.heap.size A L) (ho : IOff AV A L) : IOff (fun b => AV b ∨ w.heap.size ≤ b) A L :=
  ⟨h.1.off_new ho.a (flat_nil (fun x => by simp [IR.cells])), fun x hx => (h.2 x hx).1.off_new (ho.r x hx) fun e => by simpa [icells'] using e⟩
/-- What a view holds lies in the world. -/
theorem VR.at_.off_new {w : World} {vp : Nat} {v : VR} {AV : Nat → Prop} (h : v.at_ w vp) (ho : v.off AV) : v.off (fun b => AV b ∨ w.heap.size ≤ b) :=
  ⟨⟨h.q.1.off_new ho.q.a (flat_nil (fun x => by simp [SR.cells])), fun x hx => (h.q.2 x hx).1.off_new (ho.q.r x hx) fun e => by simpa [icells'] using e⟩, h.t0.off_new ho.t0, h.t1.off_new ho.t1, h.n.off_new ho.n (flat_nil (fun x => by simp [NR.cells])), fun x hx => (h.ns x hx).off_new (ho.ns x hx)⟩
end Go.Proofs.YtldlmkfigjicgaaGreatDoor
