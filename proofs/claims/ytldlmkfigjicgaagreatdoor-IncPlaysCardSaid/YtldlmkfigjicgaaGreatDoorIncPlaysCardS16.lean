/- IvJ, IvK, ZsH, IvL, IvP, InL, RwP, DotA -/
import Derived.Test.YtldlmkfigjicgaaGreatDoorIncPlaysCardS15
import Derived.Test.YtldlmkfigjicgaaGreatDoorRows
import Derived.Outline
import Derived.StillTail
import Derived.StillTactics
/- inc.View.Feed, All. -/
namespace Go.Proofs.YtldlmkfigjicgaaGreatDoor
set_option linter.unusedVariables false
set_option linter.unusedSimpArgs false
open Go.ChangeShapes Go.WideShapes Go.ChangeAt Go.RowKit

theorem feedE_fed (v : VS) (a b : List It) : v.feedE a b = if fedE v.q v.T0 v.T1 a b ≠ 0 then fedE v.q v.T0 v.T1 a b else (setsG (sumL (v.T0 ++ a)) (sumL (v.T1 ++ b)) v.q []).1 := by
  unfold VS.feedE fedE
  by_cases h1 : basesE v.q a b = 0 <;> by_cases h2 : addE v.T0 a = 0 <;> by_cases h3 : addE v.T1 b = 0 <;> simp [h1, h2, h3]
theorem fedE_zero {q : List St} {T0 T1 a b : List It} (h : fedE q T0 T1 a b = 0) : basesE q a b = 0 ∧ addE T0 a = 0 ∧ addE T1 b = 0 := by
  unfold fedE at h
  by_cases h1 : basesE q a b = 0 <;> by_cases h2 : addE T0 a = 0 <;> simp [h1, h2] at h <;> simp [h1, h2, h]
theorem grown_some {w w' : World} (h : w.grownBy w' none) (r : Option Nat) : w.grownBy w' r := ⟨h.os, h.tape, h.output, h.size, fun k hk _ => h.block k hk (by simp)⟩
/-- What a meal leaves. -/
def FeedPost (v : VR) (vp : Nat) (AV : Nat → Prop) (a b : List It) (w : World) (e : Ending) (w' : World) : Prop :=
  ∃ (A : Option Addr) (k : Nat) (M : List IR), e = .returned (.tuple #[.slice A M.length k, .int .i64 (v.vs.feedE a b)]) ∧ its M = v.vs.more a b ∧ SetIn w' w.heap.size A k M ∧ w.grownBy w' (some vp) ∧
    ∃ v' : VR, v'.at_ w' vp ∧ v'.vs = v.vs.fed a b ∧ v'.off AV ∧ v'.Q = v.Q ∧ v'.qA = v.qA ∧ v'.qk = v.qk
theorem feedPost_bad {v : VR} {vp : Nat} {AV : Nat → Prop} {a b : List It} {w w' : World} {E : Int} (hE : v.vs.feedE a b = E) (hz : E ≠ 0) (hv : v.at_ w vp) (ho : v.off AV) (hb : Below w.heap.size w w') : FeedPost v vp AV a b w (.returned (.tuple #[.slice none 0 0, .int .i64 E])) w' := by
  refine ⟨none, 0, [], by rw [hE]; rfl, ?_, SetIn.nil _ _, grown_some (grown_of_below hb) _, v, hv.step hb, ?_, ho, rfl, rfl, rfl⟩
  · unfold VS.more; rw [if_neg (by rw [hE]; exact hz)]; rfl
  · unfold VS.fed; rw [if_neg (by rw [hE]; exact hz)]
theorem vs_at {v : VR} {i : Nat} (h : i < v.Q.length) : v.vs.q[i]'(by simpa [VR.vs] using h) = v.Q[i].st := by simp [VR.vs]
theorem feed_step (v : VR) (vp tb : Nat) (m0 m1 : LR) (W : List Int) (D : List LR) (X : List NR) (dA xA : Option Addr) (dk xk : Nat) (W0 wr : World) (hv : v.at_ W0 vp) (hok : v.vs.ok) (hW : widsL v.vs.q [] = some W) (hbs : basesE v.vs.q (its m0.L) (its m1.L) = 0)
    (hT : TurnAt wr W0.heap.size tb vp v.Q dA dk D xA xk X (boxD dA dk D) (boxX xA xk X)) (hB : Below W0.heap.size W0 wr) (hP : TP v.vs (its m0.L) (its m1.L) W D.length (nsets X) (D.map (fun y => its y.L))) (hX : X.length = D.length) (hi : D.length < v.Q.length)
    (r0 : RowI W0 W0.heap.size m0.A m0.L) (r1 : RowI W0 W0.heap.size m1.A m1.L) :
    Calls Tryz.prog 62 #[.pointer (some ⟨tb, 0, none⟩), .int .i64 (D.length : Int), .agg #[.slice m0.A m0.L.length m0.k, .slice m1.A m1.L.length m1.k]] wr
      (StepPost v W0 tb vp D X (sumL (mAt (its m0.L) (its m1.L) v.Q[D.length].st (nsets v.N) (D.map (fun y => its y.L)))) (sumL ((nsets v.N).getD D.length [] ++ sumL (mAt (its m0.L) (its m1.L) v.Q[D.length].st (nsets v.N) (D.map (fun y => its y.L))))) wr) := by
  have hi' : D.length < v.vs.q.length := by simpa [VR.vs] using hi
  have hq8 := (hok.wids).choose_spec.2.2.2
  have hNl : v.Q.length = v.N.length := by
    have := hok.fix.1
    simpa [VR.vs] using this.symm
  have hst := refs_of hW D.length hi'
  rw [vs_at hi] at hst
  obtain ⟨-, a1, a2, a3, a4⟩ := basesE_zero.1 hbs
  have hkind := kind_of hst
  refine tstep_any v vp tb D.length v.Q[D.length] m0 m1 D X dA xA dk xk W0 wr hv hB hT r0 r1 rfl hX hi hNl (by simpa [VR.vs] using hq8) rfl (fun k1 => ?_) (fun k1 => ?_) (fun k1 => ?_) (fun j h2 hk => ?_) (fun hk k => ?_) ?_ ?_ ?_ ?_ (fun y hy => ?_)
  · rcases hkind with h | h
    · exact h.2
    · exact absurd k1 h.1
  · have hr := refs_lt hW D.length hi' (by rw [vs_at hi]; exact k1)
    rw [vs_at hi] at hr
    rcases hkind with h | h
    · exact absurd h.1 k1
    · exact ⟨h.2.1, h.2.2, hr⟩
  · have := hP.moreOk hok hW hi' (by rw [vs_at hi]; exact k1)
    rw [vs_at hi] at this
    exact this
  · have hr := refs_lt hW j (by simpa [VR.vs] using h2) (by rw [vs_at h2]; omega)
    rw [vs_at h2] at hr
    exact hr.2.1
  · have := hP.grp hok hW hi' (by rw [vs_at hi]; exact hk) k
    rw [vs_at hi] at this
    exact this
  · have := set_len a1; rwa [its_len] at this
  · have := set_len a2; rwa [its_len] at this
  · exact set_len (hok.fix.set D.length)
  · have := hP.row hok hW hi' a3 a4
    rw [vs_at hi] at this
    exact this
  · have := (badB_bound ((setI_zero.1 (hok.fix.set D.length)).2.1 y hy)).1
    omega
theorem feed_two (v : VR) (a b : List It) (W : List Int) (D : List LR) (X : List NR) (hok : v.vs.ok) (hW : widsL v.vs.q [] = some W) (hbs : basesE v.vs.q a b = 0) (hP : TP v.vs a b W D.length (nsets X) (D.map (fun y => its y.L))) (hi : D.length < v.Q.length) {l S : List It}
    (hl : l = sumL (mAt a b v.Q[D.length].st (nsets v.N) (D.map (fun y => its y.L)))) (hS : S = sumL ((nsets v.N).getD D.length [] ++ l)) :
    (doneE S = 0 → TP v.vs a b W (D.length + 1) (nsets X ++ [S]) (D.map (fun y => its y.L) ++ [l])) ∧ (doneE S ≠ 0 → (setsG (sumL (v.vs.T0 ++ a)) (sumL (v.vs.T1 ++ b)) v.vs.q []).1 = doneE S) := by
  have hi' : D.length < v.vs.q.length := by simpa [VR.vs] using hi
  obtain ⟨-, -, -, b4, b5⟩ := basesE_zero.1 hbs
  have h1 := hP.next hok hW hi' b4 b5
  have h2 := hP.stop hok hW hi'
  rw [vs_at hi] at h1 h2
  have e1 : sumL (mAt a b v.Q[D.length].st v.vs.S (D.map (fun y => its y.L))) = l := hl.symm
  rw [e1] at h1 h2
  have e2 : sumL (v.vs.S.getD D.length [] ++ l) = S := hS.symm
  rw [e2] at h1 h2
  exact ⟨h1, h2⟩
theorem grown_drew {w w' : World} {r : Option Nat} (h : w.grownBy w' r) : w.grownBy w'.drew r := ⟨h.os, h.tape, h.output, h.size, h.block⟩
theorem feed_done {v : VR} {vp tb lo : Nat} {AV : Nat → Prop} {a b : List It} {W : List Int} {w wo W6 : World} {D : List LR} {X : List NR} {dA xA : Option Addr} {dk xk : Nat} {Y0 Y1 : LR}
    (hv : v.at_ wo vp) (ho : v.off AV) (hav : AV vp) (hAV : ∀ b, AV b → b < w.heap.size) (hE : v.vs.feedE a b = 0)
    (hT : TurnAt wo lo tb vp v.Q dA dk D xA xk X (boxD dA dk D) (boxX xA xk X)) (hlo : w.heap.size ≤ lo) (hP : TP v.vs a b W D.length (nsets X) (D.map (fun y => its y.L))) (hD : D.length = v.Q.length)
    (y0 : SetIn wo w.heap.size Y0.A Y0.k Y0.L) (y1 : SetIn wo w.heap.size Y1.A Y1.k Y1.L) (i0 : its Y0.L = sumL (its v.T0.L ++ a)) (i1 : its Y1.L = sumL (its v.T1.L ++ b))
    (hg : wo.grownBy W6 (some vp)) (hb : Blk W6 vp #[.slice v.qA v.Q.length v.qk, .slice Y0.A Y0.L.length Y0.k, .slice Y1.A Y1.L.length Y1.k, .slice xA X.length xk] 94) :
    ((⟨v.Q, v.qA, v.qk, Y0, Y1, X, xA, xk⟩ : VR).at_ W6 vp ∧ (⟨v.Q, v.qA, v.qk, Y0, Y1, X, xA, xk⟩ : VR).off AV ∧ (⟨v.Q, v.qA, v.qk, Y0, Y1, X, xA, xk⟩ : VR).vs = v.vs.fed a b) ∧
      Row W6 W6.heap.size dA (llcells D) ∧ (∀ y ∈ D, RowI W6 W6.heap.size y.A y.L) ∧ W6.cell? ⟨tb, 1, none⟩ = some (boxD dA dk D) := by
  have hst : ∀ T, T ≠ 94 → Stand T wo W6 := fun T hne => Stand.grown hg fun g cur d hc q => by
    injection q with q
    subst q
    have := hv.box
    unfold Blk at this
    rw [hc] at this
    injection this with this
    injection this with _ this _
    exact hne this
  have sI := hst 67 (by decide)
  have sN := hst 3 (by decide)
  have hcell : ∃ cur T d, wo.heap[vp]? = some (Obj.cells cur T d) := ⟨_, _, _, hv.box⟩
  have hz : wo.heap.size ≤ W6.heap.size := hg.size
  have y0' := y0.stand sI sN hz
  have y1' := y1.stand sI sN hz
  have hod := own_stand hT.od (hst _ (by decide))
  have hox := own_stand hT.ox (hst _ (by decide))
  have hxs : ∀ x ∈ X, SetIn W6 lo x.A x.k x.L := fun x hx => (hT.xs x hx).stand sI sN hz
  refine ⟨⟨⟨hb, hv.q.kept' ho.q hg hav, y0'.rowI, y1'.rowI, Row.of_ownS hox, fun x hx => (hxs x hx).rowI, fun i h1 h2 => (hT.gs i h1 h2).cells hg (fun g e => by injection e with e; subst e; exact hcell)⟩, ⟨ho.q, y0'.off hAV, y1'.off hAV, ?_, fun x hx => (hxs x hx).off fun b hb => Nat.lt_of_lt_of_le (hAV b hb) hlo⟩, ?_⟩, Row.of_ownS hod, fun y hy => ((hT.ds y hy).stand sI sN hz).rowI, ?_⟩
  · exact .inr fun b off q e hb => by have := own_newS hox hlo b off q e; have := hAV b hb; omega
  · rw [VS.fed_eq hE]
    have hq : v.vs.q.length = D.length := by rw [hD]; simp [VR.vs]
    rw [← hq] at hP
    rw [hP.done]
    show VS.mk (sts v.Q) (its Y0.L) (its Y1.L) (nsets X) = VS.mk (sts v.Q) (sumL (its v.T0.L ++ a)) (sumL (its v.T1.L ++ b)) (nsets X)
    rw [i0, i1]
  · rw [((hT.box).stand (hst _ (by decide))).cells.1 1]; rfl
theorem feed_last {v : VR} {a b : List It} {W : List Int} {D : List LR} {X : List NR} (hok : v.vs.ok) (hq0 : 0 < v.Q.length) (hE : v.vs.feedE a b = 0) (hP : TP v.vs a b W D.length (nsets X) (D.map (fun y => its y.L))) (hD : D.length = v.Q.length) (hX : X.length = D.length) (hn : D.length - 1 < D.length) :
    sumL (its D[D.length - 1].L) = v.vs.more a b ∧ D[D.length - 1].L.length ≤ 800 ∧ ∀ x ∈ D[D.length - 1].L, x.row.length ≤ 8 := by
  have hS := hok.fix.1
  have hq : v.vs.q.length = D.length := by rw [hD]; simp [VR.vs]
  have hSl : v.vs.S.length = D.length := by omega
  have hNl : (nsets X).length = D.length := by simp [hX]
  have hd : its D[D.length - 1].L = subL (v.vs.S.getD (D.length - 1) []) ((nsets X).getD (D.length - 1) []) := by
    have h1 : (D.map (fun y => its y.L)).getD (D.length - 1) [] = (dl v.vs.S (nsets X)).getD (D.length - 1) [] := congrArg (fun l => l.getD (D.length - 1) []) hP.d
    rw [dl_at (by omega) (by omega)] at h1
    rw [← h1, List.getD_eq_getElem?_getD, List.getElem?_map, List.getElem?_eq_getElem hn]
    rfl
  have hs1 : setI (v.vs.S.getD (D.length - 1) []) = 0 := hok.fix.set _
  have hs2 : setI ((nsets X).getD (D.length - 1) []) = 0 := (hP.o.2 _ (by omega)).1
  obtain ⟨b1, b2⟩ := subL_bound hs1 hs2
  rw [← hd] at b1 b2
  refine ⟨?_, by rwa [its_len] at b1, fun x hx => ?_⟩
  · unfold VS.more
    rw [if_pos hE, hd]
    have e1 : v.vs.told = v.vs.S.getD (D.length - 1) [] := by unfold VS.told; rw [← getD_last _ _ (by omega), hSl]
    have hP' := hP
    rw [← hq] at hP'
    have e2 : (v.vs.fed a b).told = (nsets X).getD (D.length - 1) [] := by
      rw [VS.fed_eq hE, hP'.done]
      unfold VS.told
      rw [← getD_last _ _ (by show 0 < (nsets X).length; omega)]
      show (nsets X).getD ((nsets X).length - 1) [] = _
      rw [hNl]
    rw [e1, e2]
    unfold subL
    exact sumL_sumL _
  · have := b2 x.it (List.mem_map.2 ⟨x, hx, rfl⟩)
    exact this.2.1
set_option maxHeartbeats 8000000 in
set_option maxRecDepth 100000 in
theorem feed_any (v : VR) (vp : Nat) (m0 m1 : LR) (AV : Nat → Prop) (w : World) (hv : v.at_ w vp) (hok : v.vs.ok) (ho : v.off AV) (hav : AV vp) (hAV : ∀ b, AV b → b < w.heap.size) (h0 : RowI w w.heap.size m0.A m0.L) (h1 : RowI w w.heap.size m1.A m1.L)
    (l0 : m0.L.length ≤ 9223372036854775807) (l1 : m1.L.length ≤ 9223372036854775807) :
    Calls Tryz.prog 26 #[.pointer (some ⟨vp, 0, none⟩), .slice m0.A m0.L.length m0.k, .slice m1.A m1.L.length m1.k] w (FeedPost v vp AV (its m0.L) (its m1.L) w) := by
  obtain ⟨W, hW, hWl, hq0, hq8⟩ := hok.wids
  have hQl : v.Q.length = v.vs.q.length := by simp [VR.vs]
  have hQ8 : v.Q.length ≤ 8 := by omega
  have hQ0 : 0 < v.Q.length := by omega
  have hNl : v.N.length = v.Q.length := by
    have := hok.fix.1
    rw [hQl, ← this]; simp [VR.vs]
  have lT0 : v.T0.L.length ≤ 400 := by have := (setI_zero.1 hok.s0).1; simpa [VR.vs] using this
  have lT1 : v.T1.L.length ≤ 400 := by have := (setI_zero.1 hok.s1).1; simpa [VR.vs] using this
  have HQL := hid hQl
  have HNL := hid hNl
  have HW := hid hW
  have HFE := hid (feedE_fed v.vs (its m0.L) (its m1.L))
  clear hWl hQl hNl hq0 hq8 hW
  have HBAD := hid (fun (E : Int) (w' : World) (hE : v.vs.feedE (its m0.L) (its m1.L) = E) (hz : E ≠ 0) (hb : Below w.heap.size w w') => feedPost_bad (AV := AV) (vp := vp) hE hz hv ho hb)
  obtain ⟨w1, hw1⟩ : ∃ q : World, q = w.alloc (.cells #[.slice m0.A m0.L.length m0.k, .slice m1.A m1.L.length m1.k] 56) := ⟨_, rfl⟩
  have HB1 := hid (show Below w.heap.size w w1 by rw [hw1]; exact alloc_below (Below.refl _ _) _)
  have HM := hid (show Blk w1 w.heap.size #[.slice m0.A m0.L.length m0.k, .slice m1.A m1.L.length m1.k] 56 by rw [hw1]; exact Blk.new _ _ _)
  have HFD := hid (fed_any v vp m0 m1 w1 (hv.step HB1.out) (h0.step HB1.out) (h1.step HB1.out) l0 l1 (by omega) (by omega) (by omega))
  obtain ⟨F, hF⟩ : ∃ f, f = fedE (sts v.Q) (its v.T0.L) (its v.T1.L) (its m0.L) (its m1.L) := ⟨_, rfl⟩
  have HF := hid hF
  have HF' := hid (show F = fedE v.vs.q v.vs.T0 v.vs.T1 (its m0.L) (its m1.L) from hF)
  go_enter Tryz.func26, Tryz.ntmps26
  go_upto_region 2 with fail
  rw [← hw1]
  have HW1S := hid (show w.heap.size < w1.heap.size by rw [hw1]; simp)
  clear hw1
  obtain ⟨cHM, fHM, sHM, nHM⟩ := HM.out.all
  try simp only [cbox] at cHM
  go_wp2_with fail
  refine HFD.out.mono ?_
  rintro e w2 ⟨hb2, Y0, Y1, rfl, hy⟩
  rw [← hF] at hy ⊢
  have HY := hid hy
  clear cHM fHM sHM nHM
  replace HM := hid (HM.out.step hb2)
  have HB2 := hid (Below.step' HB1.out hb2)
  have HZ12 := hid hb2.size
  clear hb2 hy hF HFD
  by_cases hz : F = 0
  rotate_left
  · have t1 : (F != 0) = true := by simpa using hz
    have HE := hid (show v.vs.feedE (its m0.L) (its m1.L) = F by rw [HFE.out, ← HF'.out, if_pos hz])
    have HNZ := hid hz
    clear hz
    go_wp2_with fail
    -- STOP-a
    go_ret2
    exact HBAD.out F _ HE.out HNZ.out (alloc_below HB2.out _)
  have HFZ := hid (fedE_zero (q := v.vs.q) (T0 := v.vs.T0) (T1 := v.vs.T1) (a := its m0.L) (b := its m1.L) (by rw [← HF'.out]; exact hz))
  have HFE2 := hid (show v.vs.feedE (its m0.L) (its m1.L) = (setsG (sumL (v.vs.T0 ++ its m0.L)) (sumL (v.vs.T1 ++ its m1.L)) v.vs.q []).1 by rw [HFE.out, if_neg (by rw [← HF'.out]; simp [hz])])
  obtain ⟨yi0, yi1, ys0, ys1⟩ := HY.out hz
  have t1 : (F != 0) = false := by simp [hz]
  clear hz HFE HF HF' HY
  obtain ⟨W0, hW0⟩ : ∃ q : World, q = w2.alloc (.cells #[.slice Y0.A Y0.L.length Y0.k, .slice Y1.A Y1.L.length Y1.k] 56) := ⟨_, rfl⟩
  have hb2 : Below w2.heap.size w2 W0 := by rw [hW0]; exact alloc_below (Below.refl _ _) _
  have HYB := hid (show Blk W0 w2.heap.size #[.slice Y0.A Y0.L.length Y0.k, .slice Y1.A Y1.L.length Y1.k] 56 by rw [hW0]; exact Blk.new _ _ _)
  replace HM := hid (HM.out.step hb2)
  have HB0 := hid (Below.step' HB2.out hb2)
  have HYS0 := hid (SetIn.lo (ys0.step hb2) HB1.out.size)
  have HYS1 := hid (SetIn.lo (ys1.step hb2) HB1.out.size)
  have HYI0 := hid yi0
  have HYI1 := hid yi1
  have HW0S := hid (show w2.heap.size < W0.heap.size by rw [hW0]; simp)
  clear ys0 ys1 yi0 yi1 hb2
  go_upto_region 5 with fail
  rw [← hW0]
  clear hW0
  -- STOP-b
  obtain ⟨w3, hw3⟩ : ∃ q : World, q = W0.alloc (.cells #[.pointer (some ⟨vp, 0, none⟩), .slice none 0 0, .slice none 0 0] 104) := ⟨_, rfl⟩
  have HB3 := hid (show Below W0.heap.size W0 w3 by rw [hw3]; exact alloc_below (Below.refl _ _) _)
  have HT3 := hid (show TurnAt w3 W0.heap.size W0.heap.size vp v.Q none 0 [] none 0 [] (boxD none 0 []) (boxX none 0 []) from
    ⟨by rw [hw3]; exact Blk.new _ _ _, Nat.le_refl _, HB3.out.size, World.ownsRow_nil _ _ _ _, World.ownsRow_nil _ _ _ _, fun y hy => by simp at hy, fun y hy => by simp at hy, fun j h => by simp at h⟩)
  have HV3 := hid ((hv.step HB0.out).step HB3.out).box
  go_upto_region 6 with fail
  rw [← hw3]
  clear hw3
  obtain ⟨cHV3, fHV3, sHV3, nHV3⟩ := HV3.out.all
  try simp only [cbox] at cHV3
  go_wp2_with fail
  clear cHV3 fHV3 sHV3 nHV3
  -- STOP-c
  have HSTEP := hid (fun (D : List LR) (X : List NR) (dA xA : Option Addr) (dk xk : Nat) (wr : World) hT hB hP hX hi => feed_step v vp W0.heap.size m0 m1 W D X dA xA dk xk W0 wr (hv.step HB0.out) hok HW.out HFZ.out.1 hT hB hP hX hi (h0.step HB0.out) (h1.step HB0.out))
  go_loopw [34] (fun s34 wr => ∃ (D : List LR) (X : List NR) (dA xA : Option Addr) (dk xk : Nat), D.length ≤ v.Q.length ∧ s34 = .int .i64 D.length ∧ Hid (X.length = D.length) ∧ Hid (TurnAt wr W0.heap.size W0.heap.size vp v.Q dA dk D xA xk X (boxD dA dk D) (boxX xA xk X)) ∧ Hid (Below W0.heap.size W0 wr) ∧ Hid (TP v.vs (its m0.L) (its m1.L) W D.length (nsets X) (D.map (fun y => its y.L)))) (fun s34 _ => v.Q.length - (intOf s34).toNat)
  case atStart => exact ⟨[], [], none, none, 0, 0, by simp, rfl, hid rfl, HT3, HB3, hid (TP.start _ _ _ _)⟩
  case round =>
    clear HT3 HB3 HV3
    obtain ⟨D, X, dA, xA, dk, xk, hD, rfl, HX, HT, HBW, HP⟩ := hrel
    obtain ⟨wo, rfl⟩ : ∃ wx : World, wx = wr := ⟨_, rfl⟩
    by_cases hlt : D.length < v.Q.length
    · have HMO := hid (HM.out.step HBW.out)
      obtain ⟨l, hl⟩ : ∃ l, l = sumL (mAt (its m0.L) (its m1.L) v.Q[D.length].st (nsets v.N) (D.map (fun y => its y.L))) := ⟨_, rfl⟩
      obtain ⟨S, hS⟩ : ∃ S, S = sumL ((nsets v.N).getD D.length [] ++ l) := ⟨_, rfl⟩
      have hc := HSTEP.out D X dA xA dk xk wo HT.out HBW.out HP.out HX.out hlt
      rw [← hl] at hc
      rw [← hS] at hc
      have HC := hid hc
      have H2 := hid (feed_two v (its m0.L) (its m1.L) W D X hok HW.out HFZ.out.1 HP.out hlt hl hS)
      have hltI : (D.length : Int) < (v.Q.length : Int) := by omega
      clear hc hl hS HT HBW HP
      obtain ⟨cHMO, fHMO, sHMO, nHMO⟩ := HMO.out.all
      try simp only [cbox] at cHMO
      go_wp2_with fail
      -- STOP-d
      refine HC.out.mono ?_
      rintro e w5 ⟨rfl, hb5, hy5⟩
      obtain ⟨E, hE⟩ : ∃ E, E = doneE S := ⟨_, rfl⟩
      rw [← hE] at hy5 ⊢
      have HB5 := hid hb5
      have HY5 := hid hy5
      have HE5 := hid hE
      clear hb5 hy5 HC HMO hE
      by_cases hz : E = 0
      rotate_left
      · have t1 : (E != 0) = true := by simpa using hz
        have HE := hid (show v.vs.feedE (its m0.L) (its m1.L) = E by rw [HFE2.out, H2.out.2 (by rw [← HE5.out]; exact hz), HE5.out])
        have HNZ := hid hz
        clear hz
        go_wp2_with fail
        -- STOP-e
        go_ret2
        exact HBAD.out E _ HE.out HNZ.out (Below.step' HB0.out HB5.out)
      have HPN := hid (H2.out.1 (by rw [← HE5.out]; exact hz))
      obtain ⟨y, z, dA', dk', xA', xk', yl, zl, ht⟩ := HY5.out hz
      have HT5 := hid ht
      have HYL := hid yl
      have HZL := hid zl
      subst hz
      clear ht yl zl H2 HY5
      go_wp2_with fail
      -- STOP-f
      go_roundw
      case rel =>
        refine ⟨D ++ [y], X ++ [z], dA', xA', dk', xk', by simp; omega, congrArg (Value.int .i64) (by simp), hid (by simp [HX.out]), HT5, HB5, hid ?_⟩
        have h1 : nsets (X ++ [z]) = nsets X ++ [S] := by simp [nsets, HZL.out]
        have h2 : (D ++ [y]).map (fun y => its y.L) = D.map (fun y => its y.L) ++ [l] := by simp [HYL.out]
        rw [h1, h2, List.length_append]
        exact HPN.out
      case measure => simp [intOf]; omega
    · have hik : D.length = v.Q.length := by omega
      have HIK := hid hik
      have hni : ¬ ((D.length : Int) < (v.Q.length : Int)) := by omega
      have HMO := hid (HM.out.step HBW.out)
      have HTC := hid HT.out.cells'
      have HV5 := hid (show Blk wo vp #[.slice v.qA v.Q.length v.qk, .slice v.T0.A v.T0.L.length v.T0.k, .slice v.T1.A v.T1.L.length v.T1.k, .slice v.nA v.N.length v.nk] 94 from ((hv.step HB0.out).step HBW.out).box)
      have HYB5 := hid (HYB.out.step HBW.out)
      clear hik
      obtain ⟨cHMO, fHMO, sHMO, nHMO⟩ := HMO.out.all
      try simp only [cbox] at cHMO
      go_upto_region 13 with fail
      clear cHMO fHMO sHMO nHMO
      obtain ⟨⟨cT0, cT1, cT2⟩, -⟩ := HTC.out
      obtain ⟨cHV5, fHV5, sHV5, nHV5⟩ := HV5.out.all
      try simp only [cbox] at cHV5
      obtain ⟨cHYB5, fHYB5, sHYB5, nHYB5⟩ := HYB5.out.all
      try simp only [cbox] at cHYB5
      have nv2 : (vp = w2.heap.size) = False := by have := hAV vp hav; have := HB2.out.size; simp; omega
      have nv2' : (w2.heap.size = vp) = False := by have := hAV vp hav; have := HB2.out.size; simp; omega
      have nvt : (vp = W0.heap.size) = False := by have := hAV vp hav; have := HB0.out.size; simp; omega
      have nvt' : (W0.heap.size = vp) = False := by have := hAV vp hav; have := HB0.out.size; simp; omega
      go_big_region
      -- STOP-g
      clear cHV5 fHV5 sHV5 nHV5
      clear cHYB5 fHYB5 sHYB5 nHYB5
      clear cT0 cT1 cT2 nv2 nv2' nvt nvt'
      obtain ⟨W6, hW6⟩ : ∃ W6, W6 = (((wo.setCell ⟨vp, 1, none⟩ (.slice Y0.A Y0.L.length Y0.k)).setCell ⟨vp, 2, none⟩ (.slice Y1.A Y1.L.length Y1.k)).setCell ⟨vp, 3, none⟩ (.slice xA X.length xk)).drew := ⟨_, rfl⟩
      rw [← hW6]
      have HG6 := hid (show wo.grownBy W6 (some vp) by rw [hW6]; exact grown_drew (((grown_setS _ _ _ _).trans (grown_setS _ _ _ _)).trans (grown_setS _ _ _ _)))
      have HB6 := hid (show Blk W6 vp #[.slice v.qA v.Q.length v.qk, .slice Y0.A Y0.L.length Y0.k, .slice Y1.A Y1.L.length Y1.k, .slice xA X.length xk] 94 by rw [hW6]; exact (((HV5.out.set 1 _).set 2 _).set 3 _).eq rfl)
      clear hW6
      have hz0 : w.heap.size ≤ W0.heap.size := HB0.out.size
      have HEZ := hid (show v.vs.feedE (its m0.L) (its m1.L) = 0 by
        rw [HFE2.out]
        have hP' := HP.out
        rw [show D.length = v.vs.q.length by rw [HIK.out, HQL.out]] at hP'
        rw [hP'.done])
      have HDN := hid (feed_done (AV := AV) (w := w) ((hv.step HB0.out).step HBW.out) ho hav hAV HEZ.out HT.out hz0 HP.out HIK.out (HYS0.out.step HBW.out) (HYS1.out.step HBW.out) HYI0.out HYI1.out HG6.out HB6.out)
      have hn : D.length - 1 < D.length := by have := HIK.out; omega
      have HFL := hid (feed_last hok hQ0 HEZ.out HP.out HIK.out HX.out hn)
      obtain ⟨-, hrD, hrY, cT1⟩ := HDN.out
      have HAG := hid (fun (w7 : World) (hb : Below W6.heap.size W6 w7) => again_any D[D.length - 1].L D[D.length - 1].A D[D.length - 1].k w7 ((hrY _ (List.getElem_mem hn)).step hb) (by have := HFL.out.2.1; omega) (fun x hx => by have := HFL.out.2.2 x hx; omega))
      -- STOP-h
      obtain ⟨bD, oD, rfl, hbD, cD⟩ := Row.flat LR.len hrD (by omega) hn
      replace cD := cD 0 _ rfl
      simp only [Nat.mul_one, Nat.add_zero] at cD
      generalize D[D.length - 1] = yl at HFL HAG cD
      have hwr : IntKind.i64.wrap ((D.length : Int) - 1) = ((D.length - 1 : Nat) : Int) := by rw [IntKind.wrap_i64]; omega
      have hl1 : (0 : Int) ≤ ((D.length - 1 : Nat) : Int) := by omega
      have hl2 : ((D.length - 1 : Nat) : Int) < (D.length : Int) := by omega
      clear hrY hrD
      go_upto_region 14 with fail
      -- STOP-i
      refine region_tail 12 (by kernel_rfl) (by kernel_rfl) ?_
      simp only [List.take_succ_cons, List.take_zero, List.drop_succ_cons, List.drop_zero]
      repeat still_step
      refine wpStill_nil ?_
      go_wp2_with fail
      -- STOP-j
      refine (HAG.out _ (Below.drew (Below.refl _ _))).mono ?_
      rintro e w7 ⟨A7, k7, L7, rfl, hi7, ho7, hn7, hb7⟩
      have hb7' : Below W6.heap.size W6 w7 := Below.step' (Below.drew (Below.refl _ _)) hb7
      have HX7 := hid (show SetIn w7 w.heap.size A7 k7 L7 from SetIn.lo ⟨ho7, hn7⟩ (Nat.le_trans (Nat.le_trans hz0 HBW.out.size) HG6.out.size))
      have HI7 := hid (show its L7 = v.vs.more (its m0.L) (its m1.L) by rw [hi7]; exact HFL.out.1)
      have HB7 := hid hb7'
      clear ho7 hn7 hi7 hb7 hb7' HAG HFL
      go_wp2_with fail
      -- STOP-k
      go_ret2
      obtain ⟨⟨d1, d2, d3⟩, -⟩ := HDN.out
      refine ⟨A7, k7, L7, by rw [HEZ.out]; rfl, HI7.out, HX7.out, ?_, _, d1.step HB7.out, d3, d2, rfl, rfl, rfl⟩
      exact (grown_some (grown_of_below (HB0.out.trans (HBW.out.mono hz0))) _).trans (HG6.out.trans (grown_some (grown_of_below HB7.out) _))
end Go.Proofs.YtldlmkfigjicgaaGreatDoor
/- inc.View.All. -/
namespace Go.Proofs.YtldlmkfigjicgaaGreatDoor
set_option linter.unusedVariables false
set_option linter.unusedSimpArgs false
open Go.ChangeShapes Go.WideShapes Go.ChangeAt Go.RowKit

theorem vs_new {v : VR} {q : List St} (h0 : sts v.Q = q) (h1 : v.T0.L = []) (h2 : v.T1.L = []) (h3 : v.N.length = q.length) (h4 : ∀ x ∈ v.N, x.L = []) : v.vs = VS.start q := by
  unfold VR.vs VS.start
  rw [h0, h1, h2]
  have e : nsets v.N = List.replicate q.length [] := by
    rw [← h3]
    refine List.eq_replicate_iff.2 ⟨by simp, fun x hx => ?_⟩
    obtain ⟨y, hy, rfl⟩ := List.mem_map.1 hx
    rw [h4 y hy]; rfl
  rw [e]; rfl
theorem told_at {v : VR} (hok : v.vs.ok) (hn : v.N.length - 1 < v.N.length) : its v.N[v.N.length - 1].L = v.vs.told ∧ v.N[v.N.length - 1].L.length ≤ 400 ∧ ∀ x ∈ v.N[v.N.length - 1].L, x.row.length ≤ 8 := by
  have e : its v.N[v.N.length - 1].L = v.vs.told := by
    unfold VS.told
    show _ = (nsets v.N).getLastD []
    rw [← getD_last _ _ (by rw [List.length_map]; omega), List.length_map, nsets_at hn]
  have hs := VS.told_set hok
  rw [← e] at hs
  refine ⟨e, by have := (setI_zero.1 hs).1; rwa [its_len] at this, fun x hx => ?_⟩
  exact (badB_bound ((setI_zero.1 hs).2.1 x.it (List.mem_map.2 ⟨x, hx, rfl⟩))).1
set_option maxHeartbeats 2000000 in
set_option maxRecDepth 100000 in
theorem all_tells (v : VR) (vp : Nat) (w : World) (hv : v.at_ w vp) (hok : v.vs.ok) :
    Calls Tryz.prog 28 #[.pointer (some ⟨vp, 0, none⟩)] w (ItsPost v.vs.told w) := by
  obtain ⟨W, hW, hWl, hq0, hq8⟩ := hok.wids
  have hNl : v.N.length = v.vs.q.length := by rw [← hok.fix.1]; simp [VR.vs]
  have hN0 : 0 < v.N.length := by omega
  have hn : v.N.length - 1 < v.N.length := by omega
  obtain ⟨t1, t2, t3⟩ := told_at hok hn
  have hSt : Strict v.vs.told := (setI_zero.1 (VS.told_set hok)).2.2
  have HV := hid (show Blk w vp #[.slice v.qA v.Q.length v.qk, .slice v.T0.A v.T0.L.length v.T0.k, .slice v.T1.A v.T1.L.length v.T1.k, .slice v.nA v.N.length v.nk] 94 from hv.box)
  obtain ⟨bN, oN, enA, hbN, n0, -⟩ := hv.n.nr hn
  have HAG := hid (fun (w7 : World) (hb : Below w.heap.size w w7) => again_any v.N[v.N.length - 1].L v.N[v.N.length - 1].A v.N[v.N.length - 1].k w7 ((hv.ns _ (List.getElem_mem hn)).step hb) (by omega) (fun x hx => by have := t3 x hx; omega))
  rw [t1, sumL_strict hSt] at HAG
  rw [enA] at HV
  generalize v.N[v.N.length - 1] = yl at HAG n0
  have hwr : IntKind.i64.wrap ((v.N.length : Int) - 1) = ((v.N.length - 1 : Nat) : Int) := by rw [IntKind.wrap_i64]; omega
  have hl1 : (0 : Int) ≤ ((v.N.length - 1 : Nat) : Int) := by omega
  have hl2 : ((v.N.length - 1 : Nat) : Int) < (v.N.length : Int) := by omega
  clear hW hWl hq0 hq8 hNl t1 t2 t3 hSt hv hok
  obtain ⟨cHV, fHV, sHV, nHV⟩ := HV.out.all
  try simp only [cbox] at cHV
  go_enter Tryz.func28, Tryz.ntmps28
  go_wp2_with fail
  -- STOP-a
  refine region_tail 12 (by kernel_rfl) (by kernel_rfl) ?_
  simp only [List.take_succ_cons, List.take_zero, List.drop_succ_cons, List.drop_zero]
  repeat still_step
  refine wpStill_nil ?_
  go_wp2_with fail
  -- STOP-b
  refine (HAG.out _ (Below.drew (Below.refl _ _))).mono ?_
  rintro e w7 ⟨A7, k7, L7, rfl, hi7, ho7, hn7, hb7⟩
  have hb7' : Below w.heap.size w w7 := Below.step' (Below.drew (Below.refl _ _)) hb7
  go_wp2_with fail
  -- STOP-c
  go_ret
  exact ⟨A7, k7, L7, rfl, hi7, ho7, hn7, hb7'⟩
end Go.Proofs.YtldlmkfigjicgaaGreatDoor
/- slices.Equal at int, EqualFunc at Item, viewref.SameSet. -/
namespace Go.Proofs.YtldlmkfigjicgaaGreatDoor
set_option linter.unusedVariables false
set_option linter.unusedSimpArgs false
open Go.ChangeShapes Go.WideShapes Go.ChangeAt Go.RowKit

set_option maxHeartbeats 400000 in
set_option maxRecDepth 100000 in
theorem equalN_any (l m : List Int) (A B : Option Addr) (c e : Nat) (w : World) (hr : Row w w.heap.size A (icells' l)) (hs : Row w w.heap.size B (icells' m)) (hl : l.length ≤ 9223372036854775807) (hm : m.length ≤ 9223372036854775807) :
    Calls Tryz.prog 53 #[.slice A l.length c, .slice B m.length e] w fun e w' => e = .returned (.bool (decide (l = m))) ∧ Below w.heap.size w w' := by
  have HR := hid hr
  have HS := hid hs
  clear hr hs
  by_cases hlen : l.length = m.length
  · have hne : ((l.length : Int) != (m.length : Int)) = false := by simp [hlen]
    have HL := hid hlen
    clear hlen
    go_enter Tryz.func53, Tryz.ntmps53
    go_wp2
    go_loopw [13] (fun i wr => (∃ k : Nat, k ≤ l.length ∧ i = .int .i64 k ∧ ∀ j (h : j < l.length) (h' : j < m.length), j < k → l[j] = m[j]) ∧ Below w.heap.size w wr) (fun i _ => l.length - (intOf i).toNat)
    case atStart => exact ⟨⟨0, by omega, rfl, fun j _ _ h => absurd h (by omega)⟩, Below.refl _ _⟩
    case round =>
      obtain ⟨⟨k, hk, rfl, hno⟩, hbw⟩ := hrel
      by_cases hlt : k < l.length
      · have hlt' : k < m.length := by have := HL.out; omega
        obtain ⟨b, off, rfl, hb, h0⟩ := (HR.out.below hbw (Nat.le_refl _)).int' hlt
        obtain ⟨b', off', rfl, hb', h0'⟩ := (HS.out.below hbw (Nat.le_refl _)).int' hlt'
        have HN := hid hno
        have HB := hid hbw
        clear hno hbw
        generalize hd : l[k] = d at *
        generalize hd' : m[k] = d' at *
        have HD := hid hd
        have HD' := hid hd'
        clear hd hd'
        by_cases hq : d = d'
        · have q : (d != d') = false := by simp [hq]
          have HQ := hid hq
          clear hq
          go_wp2
          refine wp_region_quiet_lit (by kernel_rfl) (by kernel_rfl) ?_
          repeat (any_goals ((with_reducible refine wpQuiet_step (fun K hK => ?_)); go_simp; first | (with_reducible refine hK _ ?_; clear hK K) | ((with_reducible apply Exists.intro); (with_reducible refine ⟨fun _ => ?_, hK _ ?_⟩); (fail); clear hK K) | ((with_reducible refine (if_neg ?_).mpr (hK _ ?_)); (decide); clear hK K) | (split <;> (with_reducible refine hK _ ?_; clear hK K))))
          all_goals ((with_reducible refine wpQuiet_nil ?_); intro _ hw'; obtain ⟨nq, hw''⟩ := hw'; subst hw'')
          go_wp2
          go_roundw
          case rel =>
            refine ⟨⟨k + 1, by omega, by go_num, fun j h h' hj => ?_⟩, below_drewN HB.out _⟩
            by_cases e : j = k
            · subst e; rw [HD.out, HD'.out]; exact HQ.out
            · exact HN.out j h h' (by omega)
          case measure => simp [intOf]; omega
        · have q : (d != d') = true := by simp [hq]
          have HQ := hid hq
          clear hq
          go_wp2
          refine wp_region_quiet_lit (by kernel_rfl) (by kernel_rfl) ?_
          repeat (any_goals ((with_reducible refine wpQuiet_step (fun K hK => ?_)); go_simp; first | (with_reducible refine hK _ ?_; clear hK K) | ((with_reducible apply Exists.intro); (with_reducible refine ⟨fun _ => ?_, hK _ ?_⟩); (fail); clear hK K) | ((with_reducible refine (if_neg ?_).mpr (hK _ ?_)); (decide); clear hK K) | (split <;> (with_reducible refine hK _ ?_; clear hK K))))
          all_goals ((with_reducible refine wpQuiet_nil ?_); intro _ hw'; obtain ⟨nq, hw''⟩ := hw'; subst hw'')
          go_wp2
          go_ret
          refine ⟨ret_bool ?_, below_drewN HB.out _⟩
          symm
          rw [decide_eq_false_iff_not]
          rintro rfl
          exact HQ.out (HD.out.symm.trans HD'.out)
      · go_wp2
        go_ret
        refine ⟨ret_bool ?_, hbw⟩
        have : l = m := List.ext_getElem HL.out fun j h h' => hno j h h' (by omega)
        simp [this]
  · have hne : ((l.length : Int) != (m.length : Int)) = true := by simp; omega
    go_enter Tryz.func53, Tryz.ntmps53
    go_wp2
    go_ret
    exact ⟨ret_bool (by symm; simp; rintro rfl; exact hlen rfl), Below.refl _ _⟩


set_option maxHeartbeats 400000 in
set_option maxRecDepth 100000 in
theorem same1_any (x y : IR) (w : World) (hx : Row w w.heap.size x.A (icells' x.row)) (hxl : x.row.length ≤ 9223372036854775807) (hy : Row w w.heap.size y.A (icells' y.row)) (hyl : y.row.length ≤ 9223372036854775807) :
    Calls Tryz.prog 52 #[.agg x.cells.toArray, .agg y.cells.toArray] w fun e w' => e = .returned (.bool (decide (x.it = y.it))) ∧ Below w.heap.size w w' := by
  obtain ⟨xr, xA, xk, xn⟩ := x
  obtain ⟨yr, yA, yk, yn⟩ := y
  simp only at hx hxl hy hyl
  have HC := hid (fun w1 (hb : Below w.heap.size w w1) => equalN_any xr yr xA yA xk yk w1 (hx.step hb) (hy.step hb) hxl hyl)
  clear hx hy
  have HX : Hid (decide (IR.it ⟨xr, xA, xk, xn⟩ = IR.it ⟨yr, yA, yk, yn⟩) = (decide (xn = yn) && decide (xr = yr))) := hid (by
    simp only [IR.it, Prod.mk.injEq]
    by_cases h1 : xr = yr <;> by_cases h2 : xn = yn <;> simp [h1, h2])
  obtain ⟨R, hR⟩ : ∃ R, R = decide (IR.it ⟨xr, xA, xk, xn⟩ = IR.it ⟨yr, yA, yk, yn⟩) := ⟨_, rfl⟩
  rw [← hR] at HX ⊢
  clear hR
  obtain ⟨rb, hrb⟩ : ∃ b, b = decide (xr = yr) := ⟨_, rfl⟩
  rw [← hrb] at HC HX
  clear hrb
  simp only [IR.cells]
  by_cases h : xn = yn
  · have t1 : (xn == yn) = true := by simp [h]
    have HD : Hid (R = rb) := hid (by rw [HX.out, decide_eq_true h]; rfl)
    clear h
    go_enter Tryz.func52, Tryz.ntmps52
    go_wp2_with fail
    refine (HC.out _ (by (repeat' (first | (with_reducible exact Below.refl _ _) | (with_reducible assumption) | (with_reducible refine below_drewN ?_ _) | (with_reducible refine Below.drew ?_) | (with_reducible refine Below.alloc ?_ ?_ _) | (with_reducible refine Below.setCell ?_ ?_ _) | (refine Below.trans ?_ (Below.mono (by assumption) ?_)) | go_size)))).mono ?_
    rintro e w1 ⟨rfl, hb1⟩
    have hB1 : Below w.heap.size w w1 := (by refine Below.step' ?_ hb1; (repeat' (first | (with_reducible exact Below.refl _ _) | (with_reducible assumption) | (with_reducible refine below_drewN ?_ _) | (with_reducible refine Below.drew ?_) | (with_reducible refine Below.alloc ?_ ?_ _) | (with_reducible refine Below.setCell ?_ ?_ _) | (refine Below.trans ?_ (Below.mono (by assumption) ?_)) | go_size)))
    clear hb1
    go_wp2
    go_ret
    exact ⟨ret_bool HD.out.symm, hB1⟩
  · have t1 : (xn == yn) = false := by simp [h]
    have HD : Hid (R = false) := hid (by rw [HX.out, decide_eq_false h]; rfl)
    clear h
    go_enter Tryz.func52, Tryz.ntmps52
    go_wp2
    go_ret
    exact ⟨ret_bool HD.out.symm, by (repeat' (first | (with_reducible exact Below.refl _ _) | (with_reducible assumption) | (with_reducible refine below_drewN ?_ _) | (with_reducible refine Below.drew ?_) | (with_reducible refine Below.alloc ?_ ?_ _) | (with_reducible refine Below.setCell ?_ ?_ _) | (refine Below.trans ?_ (Below.mono (by assumption) ?_)) | go_size))⟩
theorem enters_same1 : ∀ args w, (callFunc 52 args).run Tryz.prog w = .ok (.enter 52 args) w := enters_of Tryz.func52 (by kernel_rfl) rfl

set_option maxHeartbeats 1000000 in
set_option maxRecDepth 100000 in
theorem equalFunc_any (M1 M2 : List IR) (A1 A2 : Option Addr) (c1 c2 : Nat) (w : World) (hr1 : RowI w w.heap.size A1 M1) (hl1 : M1.length ≤ 9223372036854775807) (hr2 : RowI w w.heap.size A2 M2) (hl2 : M2.length ≤ 9223372036854775807) :
    Calls Tryz.prog 51 #[.slice A1 M1.length c1, .slice A2 M2.length c2, .func (.func 52) #[] #[]] w fun e w' => e = .returned (.bool (decide (its M1 = its M2))) ∧ Below w.heap.size w w' := by
  have HR1 := hid hr1
  have HR2 := hid hr2
  have eg := enters_same1
  clear hr1 hr2
  obtain ⟨R, hR⟩ : ∃ R, R = decide (its M1 = its M2) := ⟨_, rfl⟩
  rw [← hR]
  have HRR := hid hR
  clear hR
  by_cases hlen : M1.length = M2.length
  · have hne : ((M1.length : Int) != (M2.length : Int)) = false := by simp [hlen]
    have HL := hid hlen
    clear hlen
    go_enter Tryz.func51, Tryz.ntmps51
    go_wp2_with fail
    go_loopw [17] (fun s17 wr => ∃ k : Nat, k ≤ M1.length ∧ s17 = .int .i64 k ∧ Hid (∀ j (h : j < M1.length) (h' : j < M2.length), j < k → M1[j].it = M2[j].it) ∧ Hid (Below w.heap.size w wr)) (fun s17 _ => M1.length - (intOf s17).toNat)
    case atStart => exact ⟨0, by omega, rfl, hid (fun j _ _ h => by omega), hid (Below.refl _ _)⟩
    case round =>
      obtain ⟨k, hk, rfl, HNO, HB⟩ := hrel
      by_cases hlt : k < M1.length
      · have hlt' : k < M2.length := by have := HL.out; omega
        have HS1 := hid (HR1.out.step HB.out)
        have HS2 := hid (HR2.out.step HB.out)
        obtain ⟨b, off, rfl, hb, h0, h1⟩ := HS1.out.1.it hlt
        obtain ⟨b', off', rfl, hb', h0', h1'⟩ := HS2.out.1.it hlt'
        have q1 := HS1.out.2 _ (List.getElem_mem hlt)
        have q2 := HS2.out.2 _ (List.getElem_mem hlt')
        have HXY : Hid (∀ j (h : j < M1.length) (h' : j < M2.length), j = k → (M1[j].it = M2[j].it) = (M1[k].it = M2[k].it)) := hid (fun j h h' e => by subst e; rfl)
        generalize M1[k] = x at *
        generalize M2[k] = y at *
        have HCL := hid (fun w1 (hb : Below wr.heap.size wr w1) => same1_any x y w1 (q1.1.step hb) q1.2 (q2.1.step hb) q2.2)
        clear q1 q2
        obtain ⟨bq, hbq⟩ : ∃ q, q = decide (x.it = y.it) := ⟨_, rfl⟩
        rw [← hbq] at HCL
        have HBQ := hid hbq
        clear hbq
        obtain ⟨xr, xA, xk, xn⟩ := x
        obtain ⟨yr, yA, yk, yn⟩ := y
        simp only [IR.cells] at h0 h1 h0' h1' HCL
        have hnb : (b' = wr.heap.size) = False := by simp; omega
        cases bq
        · have HD : Hid (R = false) := hid (by
            rw [HRR.out, decide_eq_false_iff_not]
            intro e
            have h3 : (its M1)[k]? = (its M2)[k]? := by rw [e]
            rw [List.getElem?_eq_getElem (by rw [its_len]; exact hlt), List.getElem?_eq_getElem (by rw [its_len]; exact hlt')] at h3
            simp only [its, List.getElem_map, Option.some.injEq] at h3
            rw [HXY.out k hlt hlt' rfl] at h3
            have := HBQ.out
            rw [decide_eq_true h3] at this
            cases this)
          go_wp2_with fail
          refine (HCL.out _ (by (repeat' (first | (with_reducible exact Below.refl _ _) | (with_reducible assumption) | (with_reducible refine below_drewN ?_ _) | (with_reducible refine Below.drew ?_) | (with_reducible refine Below.alloc ?_ ?_ _) | (with_reducible refine Below.setCell ?_ ?_ _) | (refine Below.trans ?_ (Below.mono (by assumption) ?_)) | go_size)))).mono ?_
          rintro e w1 ⟨rfl, hb1⟩
          have hB1 : Below wr.heap.size wr w1 := (by refine Below.step' ?_ hb1; (repeat' (first | (with_reducible exact Below.refl _ _) | (with_reducible assumption) | (with_reducible refine below_drewN ?_ _) | (with_reducible refine Below.drew ?_) | (with_reducible refine Below.alloc ?_ ?_ _) | (with_reducible refine Below.setCell ?_ ?_ _) | (refine Below.trans ?_ (Below.mono (by assumption) ?_)) | go_size)))
          clear hb1
          go_wp2
          go_ret
          exact ⟨ret_bool HD.out.symm, Below.step' HB.out hB1⟩
        · go_wp2_with fail
          refine (HCL.out _ (by (repeat' (first | (with_reducible exact Below.refl _ _) | (with_reducible assumption) | (with_reducible refine below_drewN ?_ _) | (with_reducible refine Below.drew ?_) | (with_reducible refine Below.alloc ?_ ?_ _) | (with_reducible refine Below.setCell ?_ ?_ _) | (refine Below.trans ?_ (Below.mono (by assumption) ?_)) | go_size)))).mono ?_
          rintro e w1 ⟨rfl, hb1⟩
          have hB1 : Below wr.heap.size wr w1 := (by refine Below.step' ?_ hb1; (repeat' (first | (with_reducible exact Below.refl _ _) | (with_reducible assumption) | (with_reducible refine below_drewN ?_ _) | (with_reducible refine Below.drew ?_) | (with_reducible refine Below.alloc ?_ ?_ _) | (with_reducible refine Below.setCell ?_ ?_ _) | (refine Below.trans ?_ (Below.mono (by assumption) ?_)) | go_size)))
          have HB1 := hid hB1
          clear hb1 hB1
          go_wp2
          go_roundw
          case rel =>
            refine ⟨k + 1, by omega, by go_num, hid (fun j h h' hj => ?_), hid (Below.step' HB.out HB1.out)⟩
            by_cases e : j = k
            · rw [HXY.out j h h' e]; exact of_decide_eq_true HBQ.out.symm
            · exact HNO.out j h h' (by omega)
          case measure => simp [intOf]; omega
      · have HD : Hid (R = true) := hid (by
          rw [HRR.out, decide_eq_true_eq]
          refine List.ext_getElem (by rw [its_len, its_len]; exact HL.out) fun j h h' => ?_
          simp only [its, List.getElem_map]
          rw [its_len] at h h'
          exact HNO.out j h h' (by omega))
        go_wp2
        go_ret
        exact ⟨ret_bool HD.out.symm, HB.out⟩
  · have hne : ((M1.length : Int) != (M2.length : Int)) = true := by simp; omega
    have HD : Hid (R = false) := hid (by
      rw [HRR.out, decide_eq_false_iff_not]
      intro e
      exact hlen (by rw [← its_len M1, ← its_len M2, e]))
    go_enter Tryz.func51, Tryz.ntmps51
    go_wp2
    go_ret
    exact ⟨ret_bool HD.out.symm, Below.refl _ _⟩

set_option maxRecDepth 100000 in
theorem sameSet_any (M1 M2 : List IR) (A1 A2 : Option Addr) (c1 c2 : Nat) (w : World) (hr1 : RowI w w.heap.size A1 M1) (hl1 : M1.length ≤ 9223372036854775807) (hr2 : RowI w w.heap.size A2 M2) (hl2 : M2.length ≤ 9223372036854775807) :
    Calls Tryz.prog 19 #[.slice A1 M1.length c1, .slice A2 M2.length c2] w fun e w' => e = .returned (.bool (decide (its M1 = its M2))) ∧ Below w.heap.size w w' := by
  have HC := hid (equalFunc_any M1 M2 A1 A2 c1 c2 w hr1 hl1 hr2 hl2)
  clear hr1 hr2
  obtain ⟨R, hR⟩ : ∃ R, R = decide (its M1 = its M2) := ⟨_, rfl⟩
  rw [← hR] at HC ⊢
  clear hR
  go_enter Tryz.func19, Tryz.ntmps19
  go_wp2_with fail
  refine HC.out.mono ?_
  rintro e w1 ⟨rfl, hb1⟩
  go_wp2
  go_ret
  exact ⟨rfl, hb1⟩

end Go.Proofs.YtldlmkfigjicgaaGreatDoor
/- viewkeep.kept0. -/
namespace Go.Proofs.YtldlmkfigjicgaaGreatDoor
set_option linter.unusedVariables false
set_option linter.unusedSimpArgs false
open Go.ChangeShapes Go.WideShapes Go.ChangeAt Go.RowKit

abbrev q0 : List St := [⟨1, 0, 0, 0, 0, 0, []⟩, ⟨8, 0, 0, 1, 0, 0, []⟩]
abbrev f1 : List It := [([1, 5, 0, 0], 1)]
abbrev f2 : List It := [([2, 5, 0, 0], 1)]
theorem RowI.nil' (w : World) (A : Option Addr) : RowI w w.heap.size A [] := ⟨.inl rfl, fun x hx => by simp at hx⟩
end Go.Proofs.YtldlmkfigjicgaaGreatDoor
/- viewkeep.IncParts. -/
namespace Go.Proofs.YtldlmkfigjicgaaGreatDoor
set_option linter.unusedVariables false
set_option linter.unusedSimpArgs false
open Go.ChangeShapes Go.WideShapes Go.ChangeAt Go.RowKit

theorem addX_len {a b : List It} {M : List IR} (h : addE a b = 0) (hM : its M = addX a b) : M.length ≤ 400 := by
  have h1 := done_set (addE_zero.1 h).2.2
  unfold addX at hM
  rw [if_pos h] at hM
  rw [← hM] at h1
  have := (setI_zero.1 h1).1
  rwa [its_len] at this
theorem SetIn.fed {w w' : World} {vp lo : Nat} {v : VR} {A : Option Addr} {k : Nat} {L : List IR} (h : SetIn w lo A k L) (hv : v.at_ w vp) (hg : w.grownBy w' (some vp)) : SetIn w' lo A k L := by
  have hst : ∀ T, T ≠ 94 → Stand T w w' := fun T hne => Stand.grown hg fun g cur d hc q => by
    injection q with q
    subst q
    have := hv.box
    unfold Blk at this
    rw [hc] at this
    injection this with this
    injection this with _ this _
    exact hne this
  exact h.stand (hst _ (by decide)) (hst _ (by decide)) hg.size
end Go.Proofs.YtldlmkfigjicgaaGreatDoor
/- What a view tells is what its query tells of all that it was fed: plain. -/
namespace Go.Proofs.YtldlmkfigjicgaaGreatDoor
set_option linter.unusedVariables false
set_option linter.unusedSimpArgs false

theorem VS.ok.tells {v : VS} (h : v.ok) : allE v.q v.T0 v.T1 = 0 ∧ evalX v.q v.T0 v.T1 = v.told := by
  have hb : basesE v.q v.T0 v.T1 = 0 := basesE_zero.2 ⟨h.qe, h.s0, h.s1, h.w0, h.w1⟩
  have ha : allE v.q v.T0 v.T1 = 0 := by unfold allE; rw [if_neg (by simp [hb]), h.gs]
  refine ⟨ha, ?_⟩
  unfold evalX allX VS.told
  rw [if_pos ha, h.gs]
theorem sumL_told {A B : List It} (hB : Strict B) : sumL (A ++ subL A B) = B := by
  have h := (subL_more A B).add
  rw [h, sumL_strict hB]
/-- A meal that is taken. -/
theorem VS.ok.eats {v : VS} (h : v.ok) {a b : List It} (he : v.feedE a b = 0) :
    addE v.T0 a = 0 ∧ addE v.T1 b = 0 ∧ addX v.T0 a = (v.fed a b).T0 ∧ addX v.T1 b = (v.fed a b).T1 ∧ sumL (v.told ++ v.more a b) = (v.fed a b).told := by
  obtain ⟨h1, h2, h3, h4⟩ := VS.feed_parts he
  refine ⟨h2, h3, ?_, ?_, ?_⟩
  · unfold addX; rw [if_pos h2, VS.fed_eq he]
  · unfold addX; rw [if_pos h3, VS.fed_eq he]
  · unfold VS.more
    rw [if_pos he, sumL_told (setI_zero.1 (VS.told_set (h.fed a b))).2.2]
theorem VS.fed_bad {v : VS} {a b : List It} (he : v.feedE a b ≠ 0) : v.fed a b = v ∧ v.more a b = [] := by
  unfold VS.fed VS.more
  rw [if_neg he, if_neg he]
  exact ⟨rfl, rfl⟩
end Go.Proofs.YtldlmkfigjicgaaGreatDoor
/- viewref.Widths, step by step: plain. -/
namespace Go.Proofs.YtldlmkfigjicgaaGreatDoor
set_option linter.unusedVariables false
set_option linter.unusedSimpArgs false

def refBad1 (s : St) (last : Int) : Bool := !wiB s.kind 1 9 || (!wiB s.a 0 last || ((!twoB s && s.b != 0) || ((twoB s && !wiB s.b 0 last) || (s.list.length != 0 && s.kind != 3))))
def refN (s : St) (a b : Int) : Int := if s.kind = 3 then (s.list.length : Int) else if s.kind = 4 then a + b else if s.kind = 8 ∨ s.kind = 9 then 2 else a
def refOk (s : St) (a b : Int) : Bool :=
  if s.kind = 2 then wiB s.op 1 3 && wiB s.val (-1073741824) 1073741824
  else if s.kind = 3 then wiB (s.list.length : Int) 1 8 && s.list.all (fun n => wiB n 0 (a - 1))
  else if s.kind = 4 then decide (a + b ≤ 8) && wiB s.val 0 (b - 1)
  else if s.kind = 5 ∨ s.kind = 6 then a == b
  else if s.kind = 9 then wiB s.val 0 (a - 1)
  else true
def refCol (s : St) : Bool := s.kind == 2 || (s.kind == 4 || (s.kind == 8 || s.kind == 9))
def refOp (s : St) : Bool := s.kind == 2
def refVal (s : St) : Bool := s.kind == 2 || (s.kind == 4 || s.kind == 9)
def refBad2 (s : St) (a b : Int) : Bool := !refOk s a b || ((refCol s && !wiB s.col 0 (a - 1)) || ((!refCol s && s.col != 0) || ((!refOp s && s.op != 0) || (!refVal s && s.val != 0))))
theorem ite_two {c1 c2 d1 d2 : Bool} {n : Int} (h : (c1 = false ∧ c2 = true) ↔ (d1 = false ∧ d2 = false)) : (if c1 = true then 0 else if c2 = true then n else 0) = (if d1 = true then 0 else if d2 = true then 0 else n) := by
  cases c1 <;> cases c2 <;> cases d1 <;> cases d2 <;> simp at h ⊢
theorem allWi_not (l : List Int) (a : Int) : l.all (fun n => wiB n 0 (a - 1)) = !l.any (fun n => !wiB n 0 (a - 1)) := by
  induction l with
  | nil => rfl
  | cons x l ih => simp only [List.all_cons, List.any_cons, ih]; cases wiB x 0 (a - 1) <;> simp
theorem ref_step (s : St) (W : List Int) (hk : s.kind ≠ 1) :
    stW s W = if refBad1 s ((W.length : Int) - 1) = true then 0 else if refBad2 s (W.getD s.a.toNat 0) (W.getD s.b.toNat 0) = true then 0 else refN s (W.getD s.a.toNat 0) (W.getD s.b.toNat 0) := by
  unfold stW
  rw [if_neg hk]
  generalize W.getD s.a.toNat 0 = a
  generalize W.getD s.b.toNat 0 = b
  generalize (W.length : Int) - 1 = last
  by_cases hw : wiB s.kind 1 9 = true
  · rw [wiB_iff] at hw
    obtain ⟨k, sa, sb, sc, so, sv, sl⟩ := s
    simp only at hk hw ⊢
    have hcase : k = 2 ∨ k = 3 ∨ k = 4 ∨ k = 5 ∨ k = 6 ∨ k = 7 ∨ k = 8 ∨ k = 9 := by omega
    rcases hcase with rfl | rfl | rfl | rfl | rfl | rfl | rfl | rfl
    · have e : ofW ⟨2, sa, sb, sc, so, sv, sl⟩ a b = if (wiB sc 0 (a - 1) && (wiB so 1 3 && wiB sv (-1073741824) 1073741824)) = true then a else 0 := rfl
      rw [e]
      refine ite_two ?_
      simp [badStep, refBad1, refBad2, twoB, refOk, refCol, refOp, refVal, wiB]
      try omega
    · have e : ofW ⟨3, sa, sb, sc, so, sv, sl⟩ a b = if (noneB ⟨3, sa, sb, sc, so, sv, sl⟩ && (decide (sl.length ≤ 8) && !sl.any (fun n => !wiB n 0 (a - 1)))) = true then (sl.length : Int) else 0 := rfl
      rw [e]
      refine ite_two ?_
      have e2 : refOk ⟨3, sa, sb, sc, so, sv, sl⟩ a b = (wiB (sl.length : Int) 1 8 && !sl.any (fun n => !wiB n 0 (a - 1))) := by rw [← allWi_not]; rfl
      unfold refBad2
      rw [e2]
      generalize sl.any (fun n => !wiB n 0 (a - 1)) = q
      cases q
      · simp [badStep, refBad1, twoB, refCol, refOp, refVal, noneB, wiB]
        omega
      · simp [badStep, refBad1, twoB, refCol, refOp, refVal, noneB, wiB]
    · have e : ofW ⟨4, sa, sb, sc, so, sv, sl⟩ a b = if (wiB sc 0 (a - 1) && (so == 0 && (wiB sv 0 (b - 1) && decide (a + b ≤ 8)))) = true then a + b else 0 := rfl
      rw [e]
      refine ite_two ?_
      simp [badStep, refBad1, refBad2, twoB, refOk, refCol, refOp, refVal, wiB]
      try omega
    · have e : ofW ⟨5, sa, sb, sc, so, sv, sl⟩ a b = if (noneB ⟨5, sa, sb, sc, so, sv, sl⟩ && a == b) = true then a else 0 := rfl
      rw [e]
      refine ite_two ?_
      simp [badStep, refBad1, refBad2, twoB, refOk, refCol, refOp, refVal, noneB, wiB]
      try omega
    · have e : ofW ⟨6, sa, sb, sc, so, sv, sl⟩ a b = if (noneB ⟨6, sa, sb, sc, so, sv, sl⟩ && a == b) = true then a else 0 := rfl
      rw [e]
      refine ite_two ?_
      simp [badStep, refBad1, refBad2, twoB, refOk, refCol, refOp, refVal, noneB, wiB]
      try omega
    · have e : ofW ⟨7, sa, sb, sc, so, sv, sl⟩ a b = if noneB ⟨7, sa, sb, sc, so, sv, sl⟩ = true then a else 0 := rfl
      rw [e]
      refine ite_two ?_
      simp [badStep, refBad1, refBad2, twoB, refOk, refCol, refOp, refVal, noneB, wiB]
      try omega
    · have e : ofW ⟨8, sa, sb, sc, so, sv, sl⟩ a b = if (wiB sc 0 (a - 1) && (so == 0 && sv == 0)) = true then 2 else 0 := rfl
      rw [e]
      refine ite_two ?_
      simp [badStep, refBad1, refBad2, twoB, refOk, refCol, refOp, refVal, wiB]
      try omega
    · have e : ofW ⟨9, sa, sb, sc, so, sv, sl⟩ a b = if (wiB sc 0 (a - 1) && (so == 0 && wiB sv 0 (a - 1))) = true then 2 else 0 := rfl
      rw [e]
      refine ite_two ?_
      simp [badStep, refBad1, refBad2, twoB, refOk, refCol, refOp, refVal, wiB]
      try omega
  · have hb : refBad1 s last = true := by unfold refBad1; rw [Bool.not_eq_true _ |>.mp hw]; rfl
    rw [hb, if_pos rfl]
    have ho : ofW s a b = 0 := by
      have hw' : ¬ (1 ≤ s.kind ∧ s.kind ≤ 9) := fun h => hw (wiB_iff.2 h)
      unfold ofW
      rw [if_neg (by omega), if_neg (by omega), if_neg (by omega), if_neg (by omega), if_neg (by omega), if_neg (by omega), if_neg (by omega)]
    rw [ho]
    split <;> rfl
end Go.Proofs.YtldlmkfigjicgaaGreatDoor
/- Contracts of the small functions of the packages cmp and dot. -/
namespace Go.Proofs.YtldlmkfigjicgaaGreatDoor
set_option linter.unusedVariables false
open Go.ChangeShapes Go.WideShapes Go.ChangeAt Go.RowKit

def inB (n lo hi : Int) : Bool := decide (lo ≤ n) && decide (n ≤ hi)

theorem in_any (n lo hi : Int) (w : World) :
    Calls Tryz.prog 38 #[.int .i64 n, .int .i64 lo, .int .i64 hi] w fun e w' => e = .returned (.bool (inB n lo hi)) ∧ w = w' := by
  go_enter Tryz.func38, Tryz.ntmps38
  go_wp2
  all_goals go_ret
  all_goals (refine ⟨?_, rfl⟩; first | (simp [inB, *]; done) | (simp [inB, *]; omega) | (simp [inB]; omega))

end Go.Proofs.YtldlmkfigjicgaaGreatDoor
