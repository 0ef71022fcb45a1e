/- IvB, IncQ, IncR -/
import Derived.Test.YtldlmkfigjicgaaGreatDoorIncPlaysCardS11
/- inc.regroup: the rows of groups that turn, and all groups then. -/
namespace Go.Proofs.YtldlmkfigjicgaaGreatDoor
set_option linter.unusedVariables false
set_option linter.unusedSimpArgs false
open Go.ChangeShapes Go.WideShapes Go.ChangeAt Go.RowKit

/-- Block b is a map of groups. -/
def GM (w : World) (b : Nat) (N S : Int → Int) : Prop := ∃ (n : Nat) (D : DataW Unit), n ≤ 2000 ∧ w.ownsMap Tryz.prog 3 grpElem b n D ∧ FMap N S D
theorem GM.lt {w : World} {b : Nat} {N S : Int → Int} (h : GM w b N S) : b < w.heap.size := by
  obtain ⟨n, D, -, h, -⟩ := h
  exact h.lt
theorem GM.kept {w w' : World} {b : Nat} {N S : Int → Int} {r : Option Nat} (h : GM w b N S) (hg : w.grownBy w' r) (hr : some b ≠ r) : GM w' b N S := by
  obtain ⟨n, D, h1, h2, h3⟩ := h
  exact ⟨n, D, h1, h2.kept hg hr, h3⟩
theorem GM.step {w w' : World} {b : Nat} {N S : Int → Int} (h : GM w b N S) (hb : Below w.heap.size w w') : GM w' b N S := h.kept (grown_of_below hb) (by simp)
theorem GM.tight {w : World} {b n : Nat} {N S : Int → Int} {D : DataW Unit} (h : w.ownsMap Tryz.prog 3 grpElem b n D) (hF : FMap N S D) {K : List Int} (hK : ∀ k, ¬ (N k = 0 ∧ S k = 0) → k ∈ K) (hl : K.length ≤ 2000) : GM w b N S :=
  ⟨K.length, D, hl, ownsMap_tight h fun k hk => hK k (of_decide_eq_true (by rw [← (hF.2 k).1]; exact hk)), hF⟩
theorem GM.congr {w : World} {b : Nat} {N S N' S' : Int → Int} (h : GM w b N S) (hN : ∀ k, N k = N' k) (hS : ∀ k, S k = S' k) : GM w b N' S' := by
  obtain ⟨n, D, h1, h2, h3⟩ := h
  exact ⟨n, D, h1, h2, h3.congr hN hS⟩
/-- What regroup tells. -/
def RgPost (s : St) (A0 a : List It) (w : World) (e : Ending) (w' : World) : Prop :=
  ∃ (A : Option Addr) (k : Nat) (M : List IR) (gb : Nat), e = .returned (.tuple #[.slice A M.length k, .map (some gb)]) ∧ (its M).Perm (grpMore s A0 a) ∧ RowI w' w'.heap.size A M ∧
    GM w' gb (fun k => wrp (grpN s A0 k + grpN s a k)) (fun k => wrp (grpS s A0 k + grpS s a k)) ∧ w.heap.size ≤ gb ∧ Below w.heap.size w w'
theorem keysG_len (s : St) (A : List It) : (keysG s A).length ≤ A.length := by
  have h3 := dedupI_len (A.map (fun x => colD x.1 s.col))
  rw [List.length_map] at h3
  exact h3
theorem grp_keys {s : St} {A : List It} {k : Int} (h : ¬ (grpN s A k = 0 ∧ grpS s A k = 0)) : k ∈ keysG s A := Decidable.byContradiction fun q => h (grp_out q)
theorem turn_keys {s : St} {A a : List It} {left : Lit → Bool} {q : Int} (hq : ¬ (turnF (grpN s A) (grpN s a) (keysG s a) left q = 0 ∧ turnF (grpS s A) (grpS s a) (keysG s a) left q = 0)) : q ∈ keysG s A ++ keysG s a := by
  by_cases h : q ∈ keysG s a
  · exact List.mem_append_right _ h
  · refine List.mem_append_left _ (grp_keys fun e => hq ?_)
    unfold turnF
    rw [if_neg fun e => h e.1, if_neg fun e => h e.1]
    exact e
set_option maxHeartbeats 8000000 in
set_option maxRecDepth 100000 in
theorem regroup_any (x : SR) (A0 : List It) (M : List IR) (A : Option Addr) (c gb : Nat) (w : World) (hr : RowI w w.heap.size A M) (hl : M.length ≤ 800) (hok : GrpOk x.st (its M)) (hA0 : A0.length ≤ 400) (hg : GM w gb (grpN x.st A0) (grpS x.st A0)) :
    Calls Tryz.prog 109 #[.agg x.cells.toArray, .map (some gb), .slice A M.length c] w (RgPost x.st A0 (its M) w) := by
  obtain ⟨⟨sk, sa, sb, sc, so, sv, sl⟩, sA, sK⟩ := x
  simp only [SR.cells] at hok hg ⊢
  have HGR := hid (fun (w1 : World) (hb : Below w.heap.size w w1) => groups_any ⟨⟨sk, sa, sb, sc, so, sv, sl⟩, sA, sK⟩ M A c w1 (hr.step hb) hl hok)
  have HTO := hid (fun key n m w1 => told_any ⟨⟨sk, sa, sb, sc, so, sv, sl⟩, sA, sK⟩ key n m w1)
  simp only [SR.cells, grpv] at HGR HTO
  obtain ⟨s, hs⟩ : ∃ s : St, s = ⟨sk, sa, sb, sc, so, sv, sl⟩ := ⟨_, rfl⟩
  rw [← hs] at HGR HTO hg ⊢
  clear hs hok hr
  have HAL := hid (show (its M).length ≤ 800 by rw [its_len]; exact hl)
  obtain ⟨a, ha⟩ : ∃ a, a = its M := ⟨_, rfl⟩
  rw [← ha] at HGR HAL ⊢
  clear ha
  have HKK := hid (fun left q (hq : ¬ (turnF (grpN s A0) (grpN s a) (keysG s a) left q = 0 ∧ turnF (grpS s A0) (grpS s a) (keysG s a) left q = 0)) => turn_keys hq)
  have HKL := hid (show (keysG s A0 ++ keysG s a).length ≤ 2000 by rw [List.length_append]; have := keysG_len s A0; have := keysG_len s a; have := HAL.out; omega)
  have hbl := hg.lt
  obtain ⟨n0, D0, hn0, hown0, hF0⟩ := hg
  have HF0 := hid hF0
  obtain ⟨W, hW⟩ : ∃ W : World, W = (w.alloc (.cells #[.int .i64 sk, .int .i64 sa, .int .i64 sb, .int .i64 sc, .int .i64 so, .int .i64 sv, .slice sA sl.length sK] 89)).alloc (.map #[] 0) := ⟨_, rfl⟩
  have HB := hid (show Below w.heap.size w W by rw [hW]; exact alloc_below (alloc_below (Below.refl _ _) _) _)
  have HXS := hid (show Blk W w.heap.size #[.int .i64 sk, .int .i64 sa, .int .i64 sb, .int .i64 sc, .int .i64 so, .int .i64 sv, .slice sA sl.length sK] 89 by rw [hW]; exact (Blk.new _ _ _).alloc _)
  have HNW := hid (show W.ownsMap Tryz.prog 3 grpElem (w.heap.size + 1) 0 (.map []) by
    rw [hW]
    have := World.ownsMap_made (w.alloc (.cells #[.int .i64 sk, .int .i64 sa, .int .i64 sb, .int .i64 sc, .int .i64 so, .int .i64 sv, .slice sA sl.length sK] 89)) Tryz.prog 3 grpElem
    simpa using this)
  have HOW := hid (hown0.kept (grown_of_below HB.out) (by simp))
  have hWs : W.heap.size = w.heap.size + 2 := by rw [hW]; simp
  have hmm := @run_makeMap Tryz.prog
  have HWS := hid hWs
  clear hF0 hown0 hWs
  go_enter Tryz.func109, Tryz.ntmps109
  go_upto_region 2 with fail
  rw [← hW]
  clear hW
  go_wp2_with (at_range; refine wpList_range_own _ rfl _ 95 rfl 3 122 int_law Tryz.underlying95 grpElem gb n0 D0 rfl HOW.out ?_; intro w4 hrg0 hg0 hs0)
  go_frame
  -- STOP-a
  have HRG0 := hid hrg0
  have HB0 := hid ((Below.refl W.heap.size W).grown hg0 (Nat.le_refl _) (fun g e => by cases e))
  have HNW0 := hid (HNW.out.kept hg0 (by simp))
  clear hrg0 hg0 hs0 HOW hmm
  go_loopw [9] (fun s9 wr => ∃ (left : Lit → Bool) (cnt : Nat), Hid (wr.ranges Tryz.prog 3 grpElem gb W.heap.size n0 D0 left cnt) ∧ Hid (GM wr (w.heap.size + 1) (metF (grpN s A0) left) (metF (grpS s A0) left)) ∧ W.heap.size + 1 ≤ wr.heap.size ∧ Hid (Blk wr w.heap.size #[.int .i64 sk, .int .i64 sa, .int .i64 sb, .int .i64 sc, .int .i64 so, .int .i64 sv, .slice sA sl.length sK] 89) ∧ Hid (Below w.heap.size w wr)) (fun _ wr => wr.rangeLeft gb W.heap.size)
  case atStart => exact ⟨_, _, HRG0, hid ⟨0, _, by omega, HNW0.out, FMap.nil.congr (fun k => (metF_start HF0.out k).1.symm) (fun k => (metF_start HF0.out k).2.symm)⟩, by have := HRG0.out.lt; omega, hid (HXS.out.step HB0.out), hid (Below.step' HB.out HB0.out)⟩
  case round =>
    clear HRG0 HB0 HNW HNW0 HXS HB
    obtain ⟨left, cnt, HRG, HGM, hsz, HXS, HBO⟩ := hrel
    have hrlt := HRG.out.lt
    obtain ⟨n1, D1, hn1, hown1, hF1⟩ := HGM.out
    have HOWN := hid hown1
    have HF1 := hid hF1
    have hnl := hown1.lt
    clear hown1 hF1 HGM
    obtain ⟨wo, rfl⟩ : ∃ wx : World, wx = wr := ⟨_, rfl⟩
    have hws1 : W.heap.size ≤ w.heap.size + 2 := Nat.le_of_eq HWS.out
    have hws2 : w.heap.size + 2 ≤ W.heap.size := Nat.le_of_eq HWS.out.symm
    go_wp2_with (at_next; refine wpList_next_ranges _ rfl _ rfl 3 int_law grpElem (Value.int .i64) (fun c : Int × Int => grpv c.1 c.2) invK_int invV_grp gb W.heap.size n0 D0 left cnt rfl HRG.out ?_ ?_)
    · intro hc0 hl0
      have HF2 := hid (HF1.out.congr (metF_end _ hl0) (metF_end _ hl0))
      clear hc0 hl0 HF1 HRG
      obtain ⟨cHXS, fHXS, sHXS, nHXS⟩ := HXS.out.all
      try simp only [cbox] at cHXS
      go_wp2_with fail
      -- STOP-b
      refine (HGR.out _ HBO.out).mono ?_
      rintro e w3 ⟨mb, mn, DG, rfl, hom, hgm, hmn, hmb, hb3⟩
      clear cHXS fHXS sHXS nHXS
      replace HXS := hid (HXS.out.step hb3)
      replace HOWN := hid (HOWN.out.kept (grown_of_below hb3) (by simp))
      replace HBO := hid (Below.step' HBO.out hb3)
      have HOM := hid hom
      have HGM := hid hgm
      have hsb := hb3.size
      have hmb2 : w.heap.size + 1 < mb := by omega
      have hmlt := hom.lt
      clear hom hgm hb3 HGR hmb hnl hrlt hws1 hws2 hsz HWS
      have HGZ := hid (show GM w3 (w.heap.size + 1) (grpN s A0) (grpS s A0) from ⟨n1, D1, hn1, HOWN.out, HF2.out⟩)
      clear HOWN HF2 hn1
      go_wp2_with (at_range; refine wpList_range_own _ rfl _ 95 rfl 3 122 int_law Tryz.underlying95 grpElem mb mn DG rfl HOM.out ?_; intro w4 hrg0 hg0 hs0)
      go_frame
      -- STOP-b
      have HRG0 := hid hrg0
      have HB0 := hid ((Below.refl w3.heap.size w3).grown hg0 (Nat.le_refl _) (fun g e => by cases e))
      have hs4 : w3.heap.size + 1 ≤ w4.heap.size := Nat.le_of_eq hs0.symm
      have hn3 : w.heap.size + 1 < w3.heap.size := HGZ.out.lt
      clear hrg0 hg0 hs0 HOM
      go_loopw [11] (fun s11 wr => ∃ (left : Lit → Bool) (cnt : Nat) (S : List IR), Hid (wr.ranges Tryz.prog 3 grpElem mb w3.heap.size mn DG left cnt) ∧ Hid (GM wr (w.heap.size + 1) (turnF (grpN s A0) (grpN s a) (keysG s a) left) (turnF (grpS s A0) (grpS s a) (keysG s a) left)) ∧ Hid ((its S).Perm (doneR s A0 a left)) ∧ Hid (wr.ownsRow (w3.heap.size + 1) 67 2 s11 S.length (rcells S)) ∧ Hid (RowsNew wr (w3.heap.size + 1) s11 S) ∧
        w3.heap.size + 1 ≤ wr.heap.size ∧ Hid (Blk wr w.heap.size #[.int .i64 sk, .int .i64 sa, .int .i64 sb, .int .i64 sc, .int .i64 so, .int .i64 sv, .slice sA sl.length sK] 89) ∧ Hid (Below w.heap.size w wr)) (fun _ wr => wr.rangeLeft mb w3.heap.size)
      case atStart => exact ⟨_, _, [], HRG0, hid ((HGZ.out.step HB0.out).congr (fun q => (turnF_start _ _ HGM.out q).symm) (fun q => (turnF_start _ _ HGM.out q).symm)), hid (by rw [doneR_start s A0 a HGM.out]; exact List.Perm.refl _), hid (World.ownsRow_nil _ _ _ _), hid (RowsNew.nil _ _ _), hs4, hid (HXS.out.step HB0.out), hid (Below.step' HBO.out HB0.out)⟩
      case round =>
        clear HRG0 HB0 HGZ HXS HBO hs4
        obtain ⟨left, cnt, S, HRG, HGZ, HPE, HSO, HSN, hsz, HXS, HBO⟩ := hrel
        obtain ⟨A9, c9, rfl⟩ := own_formS HSO.out
        have hrlt := HRG.out.lt
        have hSl : S.length ≤ 1600 := by
          have := HPE.out.length_eq
          rw [its_len] at this
          have := doneR_len s A0 a left
          have := HAL.out
          omega
        obtain ⟨n1, D1, hn1, hown1, hF1⟩ := HGZ.out
        have HOWN := hid hown1
        have HF1 := hid hF1
        clear hown1 hF1 HGZ
        obtain ⟨wo, rfl⟩ : ∃ wx : World, wx = wr := ⟨_, rfl⟩
        go_wp2_with (at_next; refine wpList_next_ranges _ rfl _ rfl 3 int_law grpElem (Value.int .i64) (fun c : Int × Int => grpv c.1 c.2) invK_int invV_grp mb w3.heap.size mn DG left cnt rfl HRG.out ?_ ?_)
        · intro hc0 hl0
          have HPF := hid (show (its S).Perm (grpMore s A0 a) by rw [← doneR_end s A0 a hl0]; exact HPE.out)
          have HFF := hid (HF1.out.congr (turnF_end _ _ hl0 (grp_wrp s A0 a)) (turnF_end _ _ hl0 (grp_wrp2 s A0 a)))
          clear hc0 hl0 HPE HF1
          go_wp2_with fail
          -- STOP-e
          go_ret2
          exact ⟨A9, c9, S, w.heap.size + 1, rfl, HPF.out, ⟨Row.of_ownS HSO.out, HSN.out.rows⟩, ⟨n1, D1, hn1, HOWN.out, HFF.out⟩, by omega, HBO.out⟩
        · intro x n m kl y1 y2 w5 cnt5 hkey hlk hv hat hrg1 hlt hg1 hs1 hen
          obtain ⟨x', ex, rfl, hwf⟩ := Maps.keyOf_int_inv Tryz.underlying3 hkey
          injection ex with _ ex
          subst ex
          have hy : y1 = grpD n m := by
            rw [grpElem_mk] at hv
            injection hv with hv
            injection hv with hv _
            exact hv.symm
          rw [hy] at hat
          have hhas := Maps.has_true_of_atKey hat
          obtain ⟨g1, g2⟩ := HGM.out.2 x
          rw [hhas] at g1
          have hkm : x ∈ colsG s a := of_decide_eq_true g1.symm
          obtain ⟨en, em⟩ := grpD_inj ((hat (grpD 0 0)).symm.trans (g2 hkm _))
          have hkk : x ∈ keysG s a := (dedupI_mem _ _).2 hkm
          have HPS := hid (doneR_step s A0 a hkk hlk)
          have HTN := hid (fun q => turnF_step (grpN s A0) (grpN s a) hkk hlk q)
          have HTS := hid (fun q => turnF_step (grpS s A0) (grpS s a) hkk hlk q)
          have HAT := hid (HF1.out.at x)
          rw [turnF_left _ _ hlk, turnF_left _ _ hlk] at HAT
          rw [← en] at HPS HTN
          rw [← em] at HPS HTS
          obtain ⟨o1, ho1⟩ : ∃ o, o = grpN s A0 x := ⟨_, rfl⟩
          obtain ⟨o2, ho2⟩ : ∃ o, o = grpS s A0 x := ⟨_, rfl⟩
          rw [← ho1] at HPS HTN HAT
          rw [← ho2] at HPS HTS HAT
          clear ho1 ho2 en em g1 g2 hkm hhas hat hy hv
          obtain ⟨v1, hv1⟩ : ∃ v, v = wrp (o1 + n) := ⟨_, rfl⟩
          obtain ⟨v2, hv2⟩ : ∃ v, v = wrp (o2 + m) := ⟨_, rfl⟩
          rw [← hv1] at HPS HTN
          rw [← hv2] at HPS HTS
          have hw1 : IntKind.i64.wrap (o1 + n) = v1 := hv1.symm
          have hw2 : IntKind.i64.wrap (o2 + m) = v2 := hv2.symm
          clear hv1 hv2
          have HRG1 := hid hrg1
          have hsz5 : wo.heap.size ≤ w5.heap.size := Nat.le_of_eq hs1.symm
          have HXS5 := hid (HXS.out.grown hg1 (fun e => by injection e with e; omega))
          have HOW5 := hid (HOWN.out.kept hg1 (fun e => by injection e with e; omega))
          have HSO5 := hid (own_ne_grown HSO.out hg1 (fun b hb e => by injection e with e; have := (HSO.out.lt b hb).1; omega))
          have HSN5 := hid (HSN.out.grownNe hg1 (fun x hx b off q e e2 => by injection e2 with e2; have := (HSN.out x hx).2.1 b off q e; omega))
          have HB5 := hid (HBO.out.grown hg1 HBO.out.size (fun g e => by injection e with e; omega))
          have hlt5 := hlt
          have HKI := hid hkey
          simp only [grpv] at hen
          clear hkey hrg1 hg1 hs1 hlk
          go_upto_region 12 with (at_lookup; refine wpList_look_grp _ rfl _ _ rfl (w.heap.size + 1) n1 D1 rfl (HOW5.out.alloc _) _ (kI x) rfl HKI.out o1 o2 HAT.out ?_)
          -- STOP-f
          obtain ⟨W6, hW6⟩ : ∃ W6 : World, W6 = ((w5.alloc (.cells #[.int .i64 n, .int .i64 m] 122)).alloc (.cells #[.int .i64 o1, .int .i64 o2] 122)).alloc (.cells #[.int .i64 v1, .int .i64 v2] 122) := ⟨_, rfl⟩
          have HB6 := hid (show Below w5.heap.size w5 W6 by rw [hW6]; exact alloc_below (alloc_below (alloc_below (Below.refl _ _) _) _) _)
          have HOD := hid (show Blk W6 (w5.heap.size + 1) #[.int .i64 o1, .int .i64 o2] 122 by rw [hW6]; exact (Blk.new' _ _ _ (by simp)).alloc _)
          have HNG := hid (show Blk W6 (w5.heap.size + 1 + 1) #[.int .i64 v1, .int .i64 v2] 122 by rw [hW6]; exact Blk.new' _ _ _ (by simp))
          rw [← hW6]
          clear hW6 hen
          have HXS6 := hid (HXS5.out.step HB6.out)
          have HOW6 := hid (HOW5.out.kept (grown_of_below HB6.out) (by simp))
          have HSO6 := hid (own_laterS HSO5.out HB6.out)
          have HSN6 := hid (HSN5.out.step HB6.out)
          have HRG6 := hid (HRG1.out.kept (grown_of_below HB6.out) (by simp) (by simp))
          have hs6 := HB6.out.size
          clear HXS5 HOW5 HSO5 HSN5 HRG1
          obtain ⟨cHNG, fHNG, sHNG, nHNG⟩ := HNG.out.all
          try simp only [cbox] at cHNG
          go_upto_region 13 with (at_mapUpdate; refine wpList_mapUpdate_own _ rfl _ _ _ 95 rfl 3 122 int_law Tryz.underlying95 grpElem (w.heap.size + 1) n1 D1 rfl HOW6.out (by simp only [maxLen]; omega) _ _ (kI x) rfl rfl HKI.out (grpD v1 v2) [] (grpElem_mk v1 v2) ?_; intro w7 hown7 hg7)
          clear cHNG fHNG sHNG nHNG
          have HOW7 := hid hown7
          have HNG7 := hid (HNG.out.grown hg7 (fun e => by injection e with e; omega))
          have HOD7 := hid (HOD.out.grown hg7 (fun e => by injection e with e; omega))
          have HXS7 := hid (HXS6.out.grown hg7 (fun e => by injection e with e; omega))
          have HRG7 := hid (HRG6.out.kept hg7 (fun e => by injection e with e; omega) (fun e => by injection e with e; omega))
          have HSO7 := hid (own_ne_grown HSO6.out hg7 (fun b hb e => by injection e with e; have := (HSO.out.lt b hb).1; omega))
          have HSN7 := hid (HSN6.out.grownNe hg7 (fun x hx b off q e e2 => by injection e2 with e2; have := (HSN.out x hx).2.1 b off q e; omega))
          have HB7 := hid ((HB5.out.trans (HB6.out.mono (by have := HB5.out.size; omega))).grown hg7 (by omega) (fun g e => by injection e with e; omega))
          have hs7 := hg7.size
          clear hown7 hg7 HXS6 HOW6 HSO6 HSN6 HRG6 HNG HOD
          have hnn := hid (show ¬ (v1 = 0 ∧ v2 = 0) → GM w7 (w.heap.size + 1) (turnF (grpN s A0) (grpN s a) (keysG s a) (fun z => left z && !z.sameKey (kI x))) (turnF (grpS s A0) (grpS s a) (keysG s a) (fun z => left z && !z.sameKey (kI x))) from fun hz => by
            have hp := HF1.out.put x v1 v2 hz
            exact GM.tight HOW7.out (hp.congr (fun q => (HTN.out q).symm) (fun q => (HTS.out q).symm)) (K := keysG s A0 ++ keysG s a) (fun q hq => HKK.out _ q hq) HKL.out)
          have hzz := hid (show (v1 = 0 ∧ v2 = 0) → ∀ w8, w8.ownsMap Tryz.prog 3 grpElem (w.heap.size + 1) (n1 + 1) ((D1.put (kI x) (grpD v1 v2)).del (kI x)) → GM w8 (w.heap.size + 1) (turnF (grpN s A0) (grpN s a) (keysG s a) (fun z => left z && !z.sameKey (kI x))) (turnF (grpS s A0) (grpS s a) (keysG s a) (fun z => left z && !z.sameKey (kI x))) from fun hz w8 h8 => by
            have hp := HF1.out.drop x (grpD v1 v2)
            exact GM.tight h8 (hp.congr (fun q => by rw [HTN.out q, hz.1]) (fun q => by rw [HTS.out q, hz.2])) (K := keysG s A0 ++ keysG s a) (fun q hq => HKK.out _ q hq) HKL.out)
          clear HF1 HTN HTS
          obtain ⟨bz, hbz⟩ : ∃ b : Bool, b = decide (v1 = 0 ∧ v2 = 0) := ⟨_, rfl⟩
          have HBZ := hid hbz
          clear hbz
          go_frame
          go_cut [57] from 33 to 81 (fun s57 wx => s57 = .bool bz ∧ wx = w7)
          case first =>
            obtain ⟨cHNG7, fHNG7, sHNG7, nHNG7⟩ := HNG7.out.all
            try simp only [cbox] at cHNG7
            by_cases z1 : v1 = 0
            · by_cases z2 : v2 = 0
              · have HZ := hid (show bz = true by rw [HBZ.out, decide_eq_true ⟨z1, z2⟩])
                go_wp2_with fail
                go_meet
                case rel => exact ⟨by rw [HZ.out], rfl⟩
              · have HZ := hid (show bz = false by rw [HBZ.out, decide_eq_false (fun h => z2 h.2)])
                go_wp2_with fail
                go_meet
                case rel => exact ⟨by rw [HZ.out], rfl⟩
            · have HZ := hid (show bz = false by rw [HBZ.out, decide_eq_false (fun h => z1 h.1)])
              go_wp2_with fail
              go_meet
              case rel => exact ⟨by rw [HZ.out], rfl⟩
          case rest =>
            obtain ⟨rfl, rfl⟩ := hcut
            obtain ⟨w7, rfl⟩ : ∃ wx : World, wx = wc := ⟨_, rfl⟩
            go_upto_if 57 with fail
            -- STOP-g
            go_cut [57] from 33 to 81 (fun s57 wx => Hid (GM wx (w.heap.size + 1) (turnF (grpN s A0) (grpN s a) (keysG s a) (fun z => left z && !z.sameKey (kI x))) (turnF (grpS s A0) (grpS s a) (keysG s a) (fun z => left z && !z.sameKey (kI x)))) ∧ Hid (w7.grownBy wx (some (w.heap.size + 1))))
            -- STOP-h
            case first =>
              cases bz
              · have HZN := hid (hnn.out (of_decide_eq_false HBZ.out.symm))
                go_wp2_with fail
                go_meet
                case rel => exact ⟨HZN, hid ⟨rfl, rfl, rfl, Nat.le_refl _, fun _ _ _ => rfl⟩⟩
              · have HZN := hid (hzz.out (of_decide_eq_true HBZ.out.symm))
                go_wp2_with (at_delete; refine wpList_delete_own _ rfl _ _ 95 3 rfl 122 int_law Tryz.underlying95 grpElem (w.heap.size + 1) (n1 + 1) (D1.put (kI x) (grpD v1 v2)) rfl HOW7.out _ (kI x) rfl HKI.out ?_; intro w8 hown8 hturn8)
                go_meet
                case rel => exact ⟨hid (HZN.out _ hown8), hid hturn8.grown⟩
            case rest =>
              obtain ⟨HGM8, HG8⟩ := hcut
              obtain ⟨w8, rfl⟩ : ∃ wx : World, wx = wc := ⟨_, rfl⟩
              have hg8 := HG8.out
              have HNG8 := hid (HNG7.out.grown hg8 (fun e => by injection e with e; omega))
              have HOD8 := hid (HOD7.out.grown hg8 (fun e => by injection e with e; omega))
              have HXS8 := hid (HXS7.out.grown hg8 (fun e => by injection e with e; omega))
              have HRG8 := hid (HRG7.out.kept hg8 (fun e => by injection e with e; omega) (fun e => by injection e with e; omega))
              have HSO8 := hid (own_ne_grown HSO7.out hg8 (fun b hb e => by injection e with e; have := (HSO.out.lt b hb).1; omega))
              have HSN8 := hid (HSN7.out.grownNe hg8 (fun x hx b off q e e2 => by injection e2 with e2; have := (HSN.out x hx).2.1 b off q e; omega))
              have HB8 := hid (HB7.out.grown hg8 (by omega) (fun g e => by injection e with e; omega))
              have hs8 := hg8.size
              have hw8 : w3.heap.size + 1 ≤ w8.heap.size := by omega
              clear hg8 HG8 HNG7 HOD7 HXS7 HRG7 HSO7 HSN7 HB7 HOW7 hnn hzz HBZ
              have HB15 := hid (alloc_below (Below.refl w8.heap.size w8) (.cells #[.int .i64 o1, .int .i64 o2] 122))
              obtain ⟨cHXS8, fHXS8, sHXS8, nHXS8⟩ := HXS8.out.all
              try simp only [cbox] at cHXS8
              obtain ⟨cHOD8, fHOD8, sHOD8, nHOD8⟩ := HOD8.out.all
              try simp only [cbox] at cHOD8
              go_wp2_with fail
              -- STOP-i
              refine (HTO.out x o1 o2 w8).mono ?_
              rintro e w9 ⟨A7, k7, M7, rfl, hi7, ho7, hn7, hb9⟩
              clear cHXS8 fHXS8 sHXS8 nHXS8
              clear cHOD8 fHOD8 sHOD8 nHOD8
              have HNG9 := hid (HNG8.out.step hb9)
              have HXS9 := hid (HXS8.out.step hb9)
              have HRG9 := hid (HRG8.out.kept (grown_of_below hb9) (by simp) (by simp))
              have HGM9 := hid (HGM8.out.step hb9)
              have HSO9 := hid (own_laterS HSO8.out hb9)
              have HSN9 := hid (HSN8.out.step hb9)
              have HB9 := hid (HB8.out.trans (hb9.mono (by have := HB8.out.size; omega)))
              have HI7 := hid hi7
              have HR7 := hid (Row.of_ownS ho7)
              have HM7 := hid hn7
              have hl7 : M7.length ≤ 1 := by rw [← its_len, hi7]; exact toldL_lenR _ _ _ _
              have hs9 := hb9.size
              have HOL := hid (fun q (e : (Value.slice A9 S.length c9).ownBlock = some q) => (HSO8.out.lt q e))
              clear hi7 ho7 hn7 hb9 HNG8 HXS8 HRG8 HGM8 HSO8 HSN8 HB8 HOD8 HB15
              go_wp2_with fail
              -- STOP-j
              go_loopw [11, 65] (fun s11 s65 wr => ∃ j : Nat, s65 = .int .i64 j ∧ ((j = M7.length ∧ ∃ S2 : List IR, S2.length ≤ 1601 ∧ Hid (its S2 = its S ++ negL (toldL s x o1 o2)) ∧ Hid (wr.ownsRow (w3.heap.size + 1) 67 2 s11 S2.length (rcells S2)) ∧ Hid (RowsNew wr (w3.heap.size + 1) s11 S2) ∧
                Hid (wr.ranges Tryz.prog 3 grpElem mb w3.heap.size mn DG (fun z => left z && !z.sameKey (kI x)) cnt5) ∧ Hid (GM wr (w.heap.size + 1) (turnF (grpN s A0) (grpN s a) (keysG s a) (fun z => left z && !z.sameKey (kI x))) (turnF (grpS s A0) (grpS s a) (keysG s a) (fun z => left z && !z.sameKey (kI x)))) ∧
                Hid (Blk wr w.heap.size #[.int .i64 sk, .int .i64 sa, .int .i64 sb, .int .i64 sc, .int .i64 so, .int .i64 sv, .slice sA sl.length sK] 89) ∧ Hid (Blk wr (w5.heap.size + 1 + 1) #[.int .i64 v1, .int .i64 v2] 122) ∧ w8.heap.size ≤ wr.heap.size ∧ Hid (Below w.heap.size w wr)) ∨ (j = 0 ∧ M7.length = 1 ∧ wr = w9 ∧ s11 = .slice A9 S.length c9))) (fun _ s65 _ => M7.length - (intOf s65).toNat)
              case atStart =>
                rcases Nat.eq_zero_or_pos M7.length with h | h
                · refine ⟨0, rfl, .inl ⟨h.symm, S, by omega, hid ?_, HSO9, HSN9, HRG9, HGM9, HXS9, HNG9, hs9, HB9⟩⟩
                  rw [← HI7.out, List.length_eq_zero_iff.1 h]
                  simp [negL]
                · exact ⟨0, rfl, .inr ⟨rfl, by omega, rfl, rfl⟩⟩
              case round =>
                obtain ⟨j, rfl, hcase⟩ := hrel
                rcases hcase with ⟨rfl, S2, hS2, HI2, HSO2, HSN2, HRG2, HGM2, HXS2, HNG2, hs2, HB2⟩ | ⟨rfl, h71, rfl, rfl⟩
                · clear HSO9 HSN9 HRG9 HGM9 HXS9 HNG9 HB9
                  obtain ⟨A10, c10, rfl⟩ := own_formS HSO2.out
                  obtain ⟨w10, rfl⟩ : ∃ wx : World, wx = wr := ⟨_, rfl⟩
                  obtain ⟨cHXS2, fHXS2, sHXS2, nHXS2⟩ := HXS2.out.all
                  try simp only [cbox] at cHXS2
                  obtain ⟨cHNG2, fHNG2, sHNG2, nHNG2⟩ := HNG2.out.all
                  try simp only [cbox] at cHNG2
                  go_wp2_with fail
                  -- STOP-k
                  refine (HTO.out x v1 v2 w10).mono ?_
                  rintro e w11 ⟨A11, k11, M11, rfl, hi11, ho11, hn11, hb11⟩
                  clear cHXS2 fHXS2 sHXS2 nHXS2
                  clear cHNG2 fHNG2 sHNG2 nHNG2
                  have HXS11 := hid (HXS2.out.step hb11)
                  have HRG11 := hid (HRG2.out.kept (grown_of_below hb11) (by simp) (by simp))
                  have HGM11 := hid (HGM2.out.step hb11)
                  have HSO11 := hid (own_laterS HSO2.out hb11)
                  have HSN11 := hid (HSN2.out.step hb11)
                  have HB11 := hid (HB2.out.trans (hb11.mono (by have := HB2.out.size; omega)))
                  have HI11 := hid hi11
                  have HR11 := hid (Row.of_ownS ho11)
                  have HM11 := hid hn11
                  have hl11 : M11.length ≤ 1 := by rw [← its_len, hi11]; exact toldL_lenR _ _ _ _
                  have hs11 := hb11.size
                  have hrl11 := rcells_len M11
                  have HOL2 := hid (fun q (e : (Value.slice A10 S2.length c10).ownBlock = some q) => (HSO2.out.lt q e))
                  clear hi11 ho11 hn11 hb11 HNG2 HXS2 HRG2 HGM2 HSO2 HSN2 HB2
                  go_wp2_with (at_builtin; refine wpList_append_row elem_item rfl _ _ rfl (w3.heap.size + 1) (.slice A10 S2.length c10) S2.length (rcells S2) rfl HSO11.out A11 M11.length k11 w11.heap.size (rcells M11) rfl hrl11 HR11.out (rcells_one M11) ?_ ?_ ?_ ?_; rotate_right; intro v12 w12 hown12 hg12 hif12; rotate_left; (simp only [maxLen]; omega); (omega); (omega))
                  -- STOP-l
                  have hl12 : S2.length + M11.length ≤ S2.length + 1 := by omega
                  have HRG12 := hid (HRG11.out.kept hg12 (fun e => by have := (HOL2.out _ e.symm).1; omega) (fun e => by have := (HOL2.out _ e.symm).1; omega))
                  have HGM12 := hid (HGM11.out.kept hg12 (fun e => by have := (HOL2.out _ e.symm).1; omega))
                  have HXS12 := hid (HXS11.out.grown hg12 (fun e => by have := (HOL2.out _ e.symm).1; omega))
                  have hs12 := hg12.size
                  refine ⟨⟨_, cnt5, S2 ++ M11, HRG12, HGM12, hid ?_, hid ?_, hid ?_, by omega, HXS12, hid (HB11.out.grown hg12 (by omega) (fun q e => by have := (HOL2.out _ e).1; omega))⟩, ?_⟩
                  · rw [its, List.map_append, show M11.map IR.it = its M11 from rfl, HI11.out, show S2.map IR.it = its S2 from rfl, HI2.out, List.append_assoc]
                    exact (HPE.out.append_right _).trans HPS.out.symm
                  · rw [rcells_app, List.length_append]
                    exact hown12
                  · refine (HSN11.out.grown hg12 hif12).app fun y hy => ?_
                    obtain ⟨q1, q2, q3, q4⟩ := HM11.out y hy
                    have hne : ∀ b off q, y.A = some ⟨b, off, q⟩ → some b ≠ (Value.slice A10 S2.length c10).ownBlock := fun b off q e e2 => by
                      have h1 := q2 b off q e
                      have h2 := (HOL2.out b e2.symm).2
                      omega
                    refine ⟨(q1.grown_ne (Nat.le_refl _) hg12 hne).more hg12.size, newAt_le q2 (by omega), fun b off q e => ⟨?_, Nat.lt_of_lt_of_le (q3 b off q e).2 hg12.size⟩, q4⟩
                    rcases hif12 with h | h
                    · rw [h]; exact hne b off q e
                    · rw [h]; intro e2; injection e2 with e2; have := (q3 b off q e).2; omega
                  · rw [HRG12.out.left_eq, HRG.out.left_eq]; exact hlt5
                · obtain ⟨y, hy⟩ : ∃ y, M7 = [y] := List.length_eq_one_iff.1 h71
                  subst hy
                  obtain ⟨yr, yA, yk, yn⟩ := y
                  obtain ⟨b7, off7, rfl, hb7, q0, q1⟩ := HR7.out.it (k := 0) (by simp)
                  simp only [List.getElem_cons_zero, Nat.zero_mul, Nat.add_zero] at q0 q1
                  obtain ⟨w10, rfl⟩ : ∃ wx : World, wx = wr := ⟨_, rfl⟩
                  have hb7' : b7 < w10.heap.size := hb7
                  clear hl7 h71
                  have hne7 : (b7 = w10.heap.size) = False := by simp; omega
                  have HHM := hid (HM7.out ⟨yr, yA, yk, yn⟩ (by simp))
                  have hyn : yn = 1 ∧ toldL s x o1 o2 = [(yr, yn)] := by
                    have h1 : [(yr, yn)] = toldL s x o1 o2 := HI7.out
                    refine ⟨?_, h1.symm⟩
                    unfold toldL at h1
                    split at h1
                    · cases h1
                    · injection h1 with h1; injection h1
                  have HYN := hid hyn
                  clear hyn
                  go_wp2_with (at_builtin; refine wpList_append_row elem_item rfl _ _ rfl (w3.heap.size + 1) (.slice A9 S.length c9) S.length (rcells S) rfl ((HSO9.out.alloc _).alloc _) (some ⟨w10.heap.size + 1, 0, none⟩) 1 1 (w10.heap.size + 1 + 1) [.slice yA yr.length yk, .int .i64 (-1)] rfl rfl (by exact Row.new' (w10.alloc _) _ _ (by simp) rfl (Nat.lt_succ_self _)) (rcells_one [⟨yr, yA, yk, -1⟩]) ?_ ?_ ?_ ?_; rotate_right; intro v12 w12 hown12 hg12 hif12; rotate_left; (simp only [maxLen]; omega); (omega); (simp; omega))
                  -- STOP-m
                  have hba := alloc_below (alloc_below (Below.refl w10.heap.size w10) (.cells #[.slice yA yr.length yk, .int .i64 yn] 67)) (.cells #[.slice yA yr.length yk, .int .i64 (-1)] 67)
                  have HRG12 := hid ((HRG9.out.kept (grown_of_below hba) (by simp) (by simp)).kept hg12 (fun e => by have := (HOL.out _ e.symm).1; omega) (fun e => by have := (HOL.out _ e.symm).1; omega))
                  have HGM12 := hid ((HGM9.out.step hba).kept hg12 (fun e => by have := (HOL.out _ e.symm).1; omega))
                  have HXS12 := hid ((HXS9.out.step hba).grown hg12 (fun e => by have := (HOL.out _ e.symm).1; omega))
                  have HNG12 := hid ((HNG9.out.step hba).grown hg12 (fun e => by have := (HSO.out.lt _ e.symm).2; omega))
                  have hsa := hba.size
                  have hs12 := hg12.size
                  go_roundw
                  -- STOP-n
                  case rel =>
                    refine ⟨v12, _, .int .i64 1, ⟨1, rfl, .inl ⟨rfl, S ++ [⟨yr, yA, yk, -1⟩], by rw [List.length_append]; simp; omega, hid ?_, hid ?_, hid ?_, HRG12, HGM12, HXS12, HNG12, by omega, hid ((HB9.out.trans (hba.mono (by have := HB9.out.size; omega))).grown hg12 (by omega) (fun q e => by have := (HOL.out _ e).1; omega))⟩⟩, rfl, rfl, rfl⟩
                    · rw [its, List.map_append, HYN.out.2, HYN.out.1]; rfl
                    · rw [rcells_app, List.length_append]
                      exact hown12
                    · refine ((HSN9.out.step hba).grown hg12 hif12).app fun z hz => ?_
                      obtain rfl := List.mem_singleton.1 hz
                      obtain ⟨q1, q2, q3, q4⟩ := HHM.out
                      have hne : ∀ b off q, yA = some ⟨b, off, q⟩ → some b ≠ (Value.slice A9 S.length c9).ownBlock := fun b off q e e2 => by
                        have h1 := q2 b off q e
                        have h2 := (HOL.out b e2.symm).2
                        omega
                      refine ⟨((q1.step hba).grown_ne (Nat.le_refl _) hg12 hne).more hg12.size, newAt_le q2 (by omega), fun b off q e => ⟨?_, Nat.lt_of_lt_of_le (Nat.lt_of_lt_of_le (q3 b off q e).2 hsa) hg12.size⟩, q4⟩
                      rcases hif12 with h | h
                      · rw [h]; exact hne b off q e
                      · rw [h]; intro e2; injection e2 with e2; have := (q3 b off q e).2; omega
                  case measure => simp [intOf]
    · intro x n m kl y1 y2 w5 cnt5 hkey hlk hv hat hrg1 hlt hg1 hs1 hen
      obtain ⟨x', ex, rfl, hwf⟩ := Maps.keyOf_int_inv Tryz.underlying3 hkey
      injection ex with _ ex
      subst ex
      have hy : y1 = grpD n m := by
        rw [grpElem_mk] at hv
        injection hv with hv
        injection hv with hv _
        exact hv.symm
      rw [hy] at hat
      have hhas := Maps.has_true_of_atKey hat
      obtain ⟨g1, g2⟩ := HF0.out.2 x
      rw [hhas] at g1
      have hnz := of_decide_eq_true g1.symm
      obtain ⟨en, em⟩ := grpD_inj ((hat (grpD 0 0)).symm.trans (g2 hnz _))
      have HSTN := hid (fun q => metF_step (grpN s A0) hlk q)
      have HSTS := hid (fun q => metF_step (grpS s A0) hlk q)
      have HEN := hid en
      have HEM := hid em
      have HNZ := hid hnz
      have HRG1 := hid hrg1
      have HG1 := hid hg1
      have hsz5 : wo.heap.size ≤ w5.heap.size := Nat.le_of_eq hs1.symm
      have hr5 : W.heap.size < w5.heap.size := by omega
      have HXS5 := hid (HXS.out.grown hg1 (fun e => by injection e with e; omega))
      have HOW5 := hid (HOWN.out.kept hg1 (fun e => by injection e with e; omega))
      have HB5 := hid (HBO.out.grown hg1 HBO.out.size (fun g e => by injection e with e; omega))
      have hlt5 := hlt
      have HKI := hid hkey
      simp only [grpv] at hen
      have HKS := hid (fun (w6 : World) (hown6 : w6.ownsMap Tryz.prog 3 grpElem (w.heap.size + 1) (n1 + 1) (D1.put (kI x) (grpD n m))) => show GM w6 (w.heap.size + 1) (metF (grpN s A0) (fun z => left z && !z.sameKey (kI x))) (metF (grpS s A0) (fun z => left z && !z.sameKey (kI x))) from by
        have hp := HF1.out.put x n m (by rw [HEN.out, HEM.out]; exact HNZ.out)
        refine (GM.tight hown6 (hp.congr (fun q => ?_) (fun q => ?_)) (K := keysG s A0) (fun q hq => ?_) (by have := keysG_len s A0; omega))
        · rw [HSTN.out q, ← HEN.out]
        · rw [HSTS.out q, ← HEM.out]
        · refine grp_keys fun h => hq ?_
          unfold metF
          simp [h.1, h.2])
      clear hy hat hhas g1 g2 hv hkey hrg1 hg1 hs1 hlk en em hnz HF1
      go_wp2_with (at_mapUpdate; refine wpList_mapUpdate_own _ rfl _ _ _ 95 rfl 3 122 int_law Tryz.underlying95 grpElem (w.heap.size + 1) n1 D1 rfl (HOW5.out.alloc _) (by simp only [maxLen]; omega) _ _ (kI x) rfl rfl HKI.out (grpD n m) [] (grpElem_mk n m) ?_; intro w6 hown6 hg6)
      -- STOP-c
      have HGM6 := hid (HKS.out _ hown6)
      have HRG6 := hid ((HRG1.out.alloc (.cells #[.int .i64 n, .int .i64 m] 122)).kept hg6 (fun e => by injection e with e; omega) (fun e => by injection e with e; omega))
      have HXS6 := hid ((HXS5.out.alloc (.cells #[.int .i64 n, .int .i64 m] 122)).grown hg6 (fun e => by injection e with e; omega))
      have HB6 := hid ((alloc_below HB5.out (.cells #[.int .i64 n, .int .i64 m] 122)).grown hg6 (by simp; omega) (fun g e => by injection e with e; omega))
      have hs6 := hg6.size
      simp at hs6
      clear hown6 hg6 HKS
      go_roundw
      case rel => exact ⟨_, ⟨cnt5, HRG6⟩, HGM6, by omega, HXS6, HB6⟩
      case measure => rw [HRG6.out.left_eq, HRG.out.left_eq]; exact hlt5
end Go.Proofs.YtldlmkfigjicgaaGreatDoor
/- Views: the law of a turn. No program in sight. -/
namespace Go.Proofs.YtldlmkfigjicgaaGreatDoor
set_option linter.unusedVariables false
set_option linter.unusedSimpArgs false

/-- What N has more than S. -/
def subL (S N : List It) : List It := sumL (N ++ negL S)
theorem subL_more (S N : List It) : More (subL S N) S N := wt_sumL _
theorem subL_strict (S N : List It) : Strict (subL S N) := (sumL_law _).1
theorem More.sum {X S N : List It} (h : More X S N) : sumL X = subL S N := sumL_same h
theorem More.of_wt {X Y S N : List It} (h : More Y S N) (hw : ∀ r, wt X r = wt Y r) : More X S N := fun r => (hw r).trans (h r)
theorem More.sums {X S N : List It} (h : More X S N) : More X (sumL S) (sumL N) := fun r => by
  rw [h r]
  exact wt_app (fun r => (wt_sumL N r).symm) (wt_neg fun r => (wt_sumL S r).symm) r
theorem More.add {X S N : List It} (h : More X S N) : sumL (S ++ X) = sumL N := sumL_same fun r => by
  have h1 := more_dvd.1 h r
  unfold wt
  rw [tot_app, wrp_dvd]
  have : tot r S + tot r X - tot r N = tot r X - (tot r N - tot r S) := by omega
  rw [this]; exact h1
theorem More.self (a b : List It) : More b a (a ++ b) := more_dvd.2 fun r => by rw [tot_app]; exact ⟨0, by omega⟩
theorem More.nil : More [] [] [] := fun r => rfl
/-- What each step has more. -/
def dl (S N : List (List It)) : List (List It) := List.zipWith subL S N
theorem dl_at {S N : List (List It)} (h : N.length ≤ S.length) {j : Nat} (hj : j < N.length) : (dl S N).getD j [] = subL (S.getD j []) (N.getD j []) := by
  unfold dl
  rw [List.getD_eq_getElem?_getD, List.getElem?_eq_getElem (by rw [List.length_zipWith]; omega), List.getElem_zipWith, List.getD_eq_getElem?_getD, List.getElem?_eq_getElem (by omega), List.getD_eq_getElem?_getD, List.getElem?_eq_getElem hj]
  rfl
theorem dl_snoc {S N : List (List It)} (h : N.length < S.length) (x : List It) : dl S (N ++ [x]) = dl S N ++ [subL (S.getD N.length []) x] := by
  have e : S = S.take N.length ++ (S.getD N.length [] :: S.drop (N.length + 1)) := by
    rw [List.getD_eq_getElem?_getD, List.getElem?_eq_getElem h, Option.getD_some, List.getElem_cons_drop, List.take_append_drop]
  have e2 : dl S N = List.zipWith subL (S.take N.length) N := by
    unfold dl
    conv => lhs; rw [e]
    have : List.zipWith subL (S.take N.length ++ (S.getD N.length [] :: S.drop (N.length + 1))) (N ++ []) = _ := List.zipWith_append (by simp; omega)
    rw [List.append_nil] at this
    rw [this]; simp
  rw [e2]
  unfold dl
  conv => lhs; rw [e]
  rw [List.zipWith_append (by simp; omega)]
  simp
/-- What a step's list has more. -/
def mAt (ma mb : List It) (s : St) (S D : List (List It)) : List It := if s.kind = 1 then (if s.a = 0 then ma else mb) else moreL s (S.getD s.a.toNat []) (S.getD s.b.toNat []) (D.getD s.a.toNat []) (D.getD s.b.toNat [])
theorem mAt_more {ta tb ma mb ta' tb' : List It} (h1 : More ma ta ta') (h2 : More mb tb tb') {s : St} {S N : List (List It)} (hl : s.kind ≠ 1 → s.a.toNat < N.length ∧ s.b.toNat < N.length) (hS : ∀ j, Strict (S.getD j [])) (hN : ∀ j, Strict (N.getD j [])) (hle : N.length ≤ S.length) :
    More (mAt ma mb s S (dl S N)) (atL ta tb s S) (atL ta' tb' s N) := by
  unfold mAt atL
  by_cases k1 : s.kind = 1
  · rw [if_pos k1, if_pos k1, if_pos k1]
    by_cases k2 : s.a = 0
    · rw [if_pos k2, if_pos k2, if_pos k2]; exact h1
    · rw [if_neg k2, if_neg k2, if_neg k2]; exact h2
  · rw [if_neg k1, if_neg k1, if_neg k1, dl_at hle (hl k1).1, dl_at hle (hl k1).2]
    exact moreL_more (hS _) (hN _) (subL_strict _ _) (subL_more _ _) (subL_more _ _)
/-- A step of a turn: what it has more is what it has then less what it had. -/
theorem turn_step {ta tb ma mb ta' tb' : List It} (h1 : More ma ta ta') (h2 : More mb tb tb') {s : St} {S N : List (List It)} (hl : s.kind ≠ 1 → s.a.toNat < N.length ∧ s.b.toNat < N.length) (hS : ∀ j, Strict (S.getD j [])) (hN : ∀ j, Strict (N.getD j [])) (hle : N.length ≤ S.length)
    {X : List It} (hX : ∀ r, wt X r = wt (mAt ma mb s S (dl S N)) r) :
    sumL X = subL (sumL (atL ta tb s S)) (sumL (atL ta' tb' s N)) ∧ sumL (sumL (atL ta tb s S) ++ sumL X) = sumL (atL ta' tb' s N) := by
  have h := ((mAt_more h1 h2 hl hS hN hle).of_wt hX).sums
  refine ⟨h.sum, ?_⟩
  have h3 := (h.of_wt (wt_sumL X)).add
  rw [h3, sumL_strict (sumL_law _).1]

/-- The sets are those of their steps. -/
def Fix (ta tb : List It) (q : List St) (S : List (List It)) : Prop := S.length = q.length ∧ ∀ i (h : i < q.length), S.getD i [] = sumL (atL ta tb q[i] S) ∧ doneE (S.getD i []) = 0
theorem getD_take {S out : List (List It)} (h : S.take out.length = out) {i : Nat} (hi : i < out.length) : S.getD i [] = out.getD i [] := by
  rw [← h, List.getD_eq_getElem?_getD, List.getD_eq_getElem?_getD, List.getElem?_take, if_pos (by rw [← h] at hi; rw [List.length_take] at hi; omega)]
theorem fix_gen (ta tb : List It) : ∀ (q : List St) (out R : List (List It)), setsG ta tb q out = (0, R) → (∀ i (h : i < q.length), q[i].kind ≠ 1 → q[i].a.toNat < out.length + i ∧ q[i].b.toNat < out.length + i) →
    R.take out.length = out ∧ R.length = out.length + q.length ∧ ∀ i (h : i < q.length), R.getD (out.length + i) [] = sumL (atL ta tb q[i] R) ∧ doneE (R.getD (out.length + i) []) = 0
  | [], out, R, h, _ => by
    rw [setsG] at h; injection h with _ h; subst h
    exact ⟨List.take_length, by simp, fun i h => by simp at h⟩
  | s :: q, out, R, h, hr => by
    rw [setsG] at h
    by_cases e : doneE (sumL (atL ta tb s out)) ≠ 0
    · rw [if_pos e] at h; injection h with h _; exact absurd h e
    · rw [if_neg e] at h
      obtain ⟨h1, h2, h3⟩ := fix_gen ta tb q _ R h (fun i hi hk => by
        have := hr (i + 1) (by simp; omega) hk
        simp only [List.length_append, List.length_singleton, List.getElem_cons_succ] at this ⊢
        omega)
      have hx : R.getD out.length [] = sumL (atL ta tb s out) := by
        rw [getD_take h1 (by simp)]
        rw [List.getD_eq_getElem?_getD]; simp
      have hR : R.take out.length = out := by
        have := congrArg (List.take out.length) h1
        rw [List.take_take, Nat.min_eq_left (by simp), List.take_append_of_le_length (Nat.le_refl _), List.take_length] at this
        exact this
      have hat : atL ta tb s out = atL ta tb s R := by
        unfold atL
        by_cases k1 : s.kind = 1
        · rw [if_pos k1, if_pos k1]
        · have : s.a.toNat < out.length ∧ s.b.toNat < out.length := hr 0 (by simp) k1
          rw [if_neg k1, if_neg k1, getD_take hR this.1, getD_take hR this.2]
      refine ⟨hR, by rw [h2]; simp; omega, fun i hi => ?_⟩
      cases i with
      | zero =>
        rw [Nat.add_zero, hx]
        exact ⟨congrArg sumL hat, Decidable.not_not.1 e⟩
      | succ i =>
        have := h3 i (by simpa using hi)
        simp only [List.length_append, List.length_singleton, List.getElem_cons_succ] at this ⊢
        rw [show out.length + (i + 1) = out.length + 1 + i by omega]
        exact this
theorem refs_of : ∀ {q : List St} {V W : List Int}, widsL q V = some W → ∀ i (h : i < q.length), stW q[i] (W.take (V.length + i)) ≠ 0
  | s :: q, V, W, hw, i, h => by
    obtain ⟨h1, h2⟩ := widsL_cons hw
    have h3 := (widsL_len hw).2
    cases i with
    | zero => rw [Nat.add_zero, h3]; exact h1
    | succ i =>
      have := refs_of h2 i (by simpa using h)
      simp only [List.length_append, List.length_singleton, List.getElem_cons_succ] at this ⊢
      rwa [show V.length + (i + 1) = V.length + 1 + i by omega]
theorem refs_lt {q : List St} {W : List Int} (hw : widsL q [] = some W) (i : Nat) (h : i < q.length) (hk : q[i].kind ≠ 1) : 0 ≤ q[i].a ∧ q[i].a.toNat < i ∧ 0 ≤ q[i].b ∧ q[i].b.toNat < i := by
  have := stW_ok (refs_of hw i h)
  have hl := (widsL_len hw).1
  rcases this with ⟨k, -⟩ | ⟨h1, h2, h3, h4, -⟩
  · exact absurd k hk
  · simp only [List.length_nil, Nat.zero_add, List.length_take] at h2 h4
    exact ⟨h1, by omega, h3, by omega⟩
theorem fix_of {ta tb : List It} {q : List St} {W : List Int} {S : List (List It)} (hw : widsL q [] = some W) (h : setsG ta tb q [] = (0, S)) : Fix ta tb q S := by
  obtain ⟨-, h2, h3⟩ := fix_gen ta tb q [] S h (fun i hi hk => by
    have := refs_lt hw i hi hk
    simp only [List.length_nil]; omega)
  simp only [List.length_nil, Nat.zero_add] at h2 h3
  exact ⟨h2, h3⟩
theorem Fix.strict {ta tb : List It} {q : List St} {S : List (List It)} (h : Fix ta tb q S) (j : Nat) : Strict (S.getD j []) := by
  by_cases hj : j < q.length
  · rw [(h.2 j hj).1]; exact (sumL_law _).1
  · rw [List.getD_eq_getElem?_getD, List.getElem?_eq_none (by rw [h.1]; omega)]; trivial
theorem Fix.set {ta tb : List It} {q : List St} {S : List (List It)} (h : Fix ta tb q S) (j : Nat) : setI (S.getD j []) = 0 := by
  by_cases hj : j < q.length
  · obtain ⟨h1, h2⟩ := h.2 j hj
    rw [h1] at h2 ⊢
    exact done_set h2
  · rw [List.getD_eq_getElem?_getD, List.getElem?_eq_none (by rw [h.1]; omega)]; rfl
theorem sumL_nil : sumL [] = [] := sumL_strict (S := []) trivial
theorem stL_nil (s : St) : stL s [] [] = [] := by
  unfold stL linL
  repeat' split
  all_goals rfl
theorem fix_start : ∀ (q : List St) (out : List (List It)), (∀ j, out.getD j [] = []) → setsG [] [] q out = (0, out ++ List.replicate q.length [])
  | [], out, _ => by simp [setsG]
  | s :: q, out, h => by
    have e : atL [] [] s out = [] := by
      unfold atL
      split
      · split <;> rfl
      · rw [h, h, stL_nil]
    rw [setsG, e, sumL_nil, if_neg (show ¬ doneE [] ≠ 0 by simp [doneE]), fix_start q _ (fun j => by
      rw [List.getD_eq_getElem?_getD, List.getElem?_append]
      split
      · rw [← List.getD_eq_getElem?_getD]; exact h j
      · cases j - out.length <;> simp)]
    rw [List.append_assoc]; rfl
/-! bounds -/
theorem tot_le {c : Int} (hc : 0 ≤ c) (r : List Int) : ∀ {L : List It}, Strict L → (∀ x ∈ L, -c ≤ x.2 ∧ x.2 ≤ c) → -c ≤ tot r L ∧ tot r L ≤ c
  | [], _, _ => by simp only [tot]; omega
  | x :: L, h, hb => by
    rw [tot]
    by_cases e : x.1 = r
    · have : tot r L = 0 := tot_none fun y hy e2 => by
        have := h.2.2.1 y hy
        rw [e, e2, cmpL_self] at this; omega
      rw [if_pos e, this]
      have := hb x (by simp); omega
    · rw [if_neg e, Int.zero_add]
      exact tot_le hc r h.tail fun y hy => hb y (by simp [hy])
theorem strict_mem : ∀ {L : List It}, Strict L → ∀ x ∈ L, wt L x.1 = x.2
  | y :: L, h, x, hx => by
    rcases List.mem_cons.1 hx with e | e
    · rw [e]; exact strict_wt h
    · have h1 := strict_mem h.tail x e
      rw [strict_wt_tail h, if_neg (fun q => by
        have := h.2.2.1 x e
        rw [q, cmpL_self] at this; omega)] at h1
      exact h1
theorem subL_bound {S N : List It} (hS : setI S = 0) (hN : setI N = 0) : (subL S N).length ≤ 800 ∧ ∀ y ∈ subL S N, (∃ z, (z ∈ S ∨ z ∈ N) ∧ z.1 = y.1) ∧ y.1.length ≤ 8 ∧ (∀ z ∈ y.1, -1073741824 ≤ z ∧ z ≤ 1073741824) ∧ -2097152 ≤ y.2 ∧ y.2 ≤ 2097152 := by
  obtain ⟨l1, b1, s1⟩ := setI_zero.1 hS
  obtain ⟨l2, b2, s2⟩ := setI_zero.1 hN
  refine ⟨?_, fun y hy => ?_⟩
  · have := sumL_len (N ++ negL S)
    rw [List.length_append, negL, List.length_map] at this
    unfold subL negL; omega
  · obtain ⟨z, hz, e⟩ := sumL_mem hy
    have hz' : ∃ z, (z ∈ S ∨ z ∈ N) ∧ z.1 = y.1 := by
      rcases List.mem_append.1 hz with h | h
      · exact ⟨z, .inr h, e⟩
      · obtain ⟨u, hu, rfl⟩ := List.mem_map.1 h
        exact ⟨u, .inl hu, e⟩
    obtain ⟨u, hu, eu⟩ := hz'
    have hb : badB u = false := hu.elim (b1 u) (b2 u)
    have hbb := badB_bound hb
    have hw := strict_mem (subL_strict S N) y hy
    have hm := more_wt (subL_more S N) y.1
    have t1 := tot_le (c := 1048576) (by omega) y.1 s1 (fun x hx => by have := badB_bound (b1 x hx); omega)
    have t2 := tot_le (c := 1048576) (by omega) y.1 s2 (fun x hx => by have := badB_bound (b2 x hx); omega)
    have hwt : wt (subL S N) y.1 = tot y.1 N - tot y.1 S := by
      rw [subL_more S N y.1]
      unfold wt
      rw [tot_app, negL, tot_neg', ← Int.sub_eq_add_neg]
      exact wrp_id (by omega)
    rw [hw] at hwt
    exact ⟨⟨u, hu, eu⟩, by rw [← eu]; omega, by rw [← eu]; exact hbb.2.1, by omega, by omega⟩
end Go.Proofs.YtldlmkfigjicgaaGreatDoor
/- Views: what they are, and what they are once they are fed. No program in sight. -/
namespace Go.Proofs.YtldlmkfigjicgaaGreatDoor
set_option linter.unusedVariables false
set_option linter.unusedSimpArgs false

/-- A view: its query, both tables, the sets of its steps. -/
structure VS where
  q : List St
  T0 : List It
  T1 : List It
  S : List (List It)
/-- A view as it may be. -/
structure VS.ok (v : VS) : Prop where
  qe : queryE v.q = 0
  s0 : setI v.T0 = 0
  s1 : setI v.T1 = 0
  w0 : ∀ x ∈ v.T0, x.1.length = 4
  w1 : ∀ x ∈ v.T1, x.1.length = 4
  gs : setsG v.T0 v.T1 v.q [] = (0, v.S)
def VS.start (q : List St) : VS := ⟨q, [], [], List.replicate q.length []⟩
/-- What is wrong with a meal. -/
def VS.feedE (v : VS) (a b : List It) : Int :=
  if basesE v.q a b ≠ 0 then basesE v.q a b else if addE v.T0 a ≠ 0 then addE v.T0 a else if addE v.T1 b ≠ 0 then addE v.T1 b else (setsG (sumL (v.T0 ++ a)) (sumL (v.T1 ++ b)) v.q []).1
def VS.fed (v : VS) (a b : List It) : VS := if v.feedE a b = 0 then ⟨v.q, sumL (v.T0 ++ a), sumL (v.T1 ++ b), (setsG (sumL (v.T0 ++ a)) (sumL (v.T1 ++ b)) v.q []).2⟩ else v
def VS.told (v : VS) : List It := v.S.getLastD []
def VS.more (v : VS) (a b : List It) : List It := if v.feedE a b = 0 then subL v.told (v.fed a b).told else []
theorem VS.start_ok {q : List St} (h : queryE q = 0) : (VS.start q).ok where
  qe := h
  s0 := rfl
  s1 := rfl
  w0 := fun x hx => by simp [VS.start] at hx
  w1 := fun x hx => by simp [VS.start] at hx
  gs := by
    have := fix_start q [] (fun j => rfl)
    rwa [List.nil_append] at this
theorem VS.ok.wids {v : VS} (h : v.ok) : ∃ W, widsL v.q [] = some W ∧ W.length = v.q.length ∧ 0 < v.q.length ∧ v.q.length ≤ 8 := by
  obtain ⟨h1, h2, W, hW⟩ := queryE_zero.1 h.qe
  have := (widsL_len hW).1
  simp only [List.length_nil, Nat.zero_add] at this
  exact ⟨W, hW, this, h1, h2⟩
theorem VS.ok.fix {v : VS} (h : v.ok) : Fix v.T0 v.T1 v.q v.S := by
  obtain ⟨W, hW, -⟩ := h.wids
  exact fix_of hW h.gs
theorem VS.ok.out {v : VS} (h : v.ok) {W : List Int} (hW : widsL v.q [] = some W) : OkOut v.S W := by
  have := setsG_ok h.w0 h.w1 hW okOut_nil (by rw [h.gs])
  rwa [h.gs] at this
theorem VS.feed_parts {v : VS} {a b : List It} (he : v.feedE a b = 0) : basesE v.q a b = 0 ∧ addE v.T0 a = 0 ∧ addE v.T1 b = 0 ∧ (setsG (sumL (v.T0 ++ a)) (sumL (v.T1 ++ b)) v.q []).1 = 0 := by
  unfold VS.feedE at he
  by_cases e1 : basesE v.q a b = 0
  · rw [if_neg (by simp [e1])] at he
    by_cases e2 : addE v.T0 a = 0
    · rw [if_neg (by simp [e2])] at he
      by_cases e3 : addE v.T1 b = 0
      · rw [if_neg (by simp [e3])] at he
        exact ⟨e1, e2, e3, he⟩
      · rw [if_pos e3] at he; exact absurd he e3
    · rw [if_pos e2] at he; exact absurd he e2
  · rw [if_pos e1] at he; exact absurd he e1
theorem addE_zero {a b : List It} : addE a b = 0 ↔ setI a = 0 ∧ setI b = 0 ∧ doneE (sumL (a ++ b)) = 0 := by
  unfold addE
  constructor
  · intro h
    by_cases h1 : setI a = 0
    · rw [if_neg (by simp [h1])] at h
      by_cases h2 : setI b = 0
      · rw [if_neg (by simp [h2])] at h; exact ⟨h1, h2, h⟩
      · rw [if_pos h2] at h; exact absurd h h2
    · rw [if_pos h1] at h; exact absurd h h1
  · rintro ⟨h1, h2, h3⟩
    rw [if_neg (by simp [h1]), if_neg (by simp [h2]), h3]
theorem sum_wide {n : Nat} {a b : List It} (ha : ∀ x ∈ a, x.1.length = n) (hb : ∀ x ∈ b, x.1.length = n) : ∀ x ∈ sumL (a ++ b), x.1.length = n := fun x hx => by
  obtain ⟨y, hy, e⟩ := sumL_mem hx
  rw [← e]
  rcases List.mem_append.1 hy with h | h
  · exact ha y h
  · exact hb y h
theorem VS.fed_eq {v : VS} {a b : List It} (he : v.feedE a b = 0) : v.fed a b = ⟨v.q, sumL (v.T0 ++ a), sumL (v.T1 ++ b), (setsG (sumL (v.T0 ++ a)) (sumL (v.T1 ++ b)) v.q []).2⟩ := if_pos he
theorem VS.ok.fed {v : VS} (h : v.ok) (a b : List It) : (v.fed a b).ok := by
  by_cases he : v.feedE a b = 0
  · obtain ⟨e1, e2, e3, e4⟩ := VS.feed_parts he
    obtain ⟨-, -, -, b4, b5⟩ := basesE_zero.1 e1
    rw [VS.fed_eq he]
    exact ⟨h.qe, done_set (addE_zero.1 e2).2.2, done_set (addE_zero.1 e3).2.2, sum_wide h.w0 b4, sum_wide h.w1 b5, Prod.ext e4 rfl⟩
  · unfold VS.fed; rw [if_neg he]; exact h
theorem VS.fed_q (v : VS) (a b : List It) : (v.fed a b).q = v.q := by unfold VS.fed; split <;> rfl
theorem VS.told_set {v : VS} (h : v.ok) : setI v.told = 0 := by
  unfold VS.told
  obtain ⟨W, hW, hl, h0, -⟩ := h.wids
  have := h.fix
  rw [← getD_last _ _ (by rw [this.1]; exact h0)]
  exact this.set _
theorem sumL_sumL (a : List It) : sumL (sumL a) = sumL a := sumL_strict (sumL_law _).1
theorem widsL_step' : ∀ {q : List St} {V W : List Int}, widsL q V = some W → ∀ i (h : i < q.length) (h2 : V.length + i < W.length), stW q[i] (W.take (V.length + i)) = W[V.length + i]
  | s :: q, V, W, hw, i, h, h2 => by
    obtain ⟨h1, h3⟩ := widsL_cons hw
    have h4 := (widsL_len hw).2
    have h5 := (widsL_len h3).2
    cases i with
    | zero =>
      simp only [List.getElem_cons_zero, Nat.add_zero] at h2 ⊢
      rw [h4]
      have := congrArg (fun l => l[V.length]?) h5
      simp only [List.length_append, List.length_singleton, List.getElem?_take, Nat.lt_succ_self, if_true] at this
      rw [List.getElem?_append_right (Nat.le_refl _), Nat.sub_self, List.getElem?_eq_getElem h2] at this
      simp only [List.getElem?_cons_zero] at this
      injection this with this
      exact this.symm
    | succ i =>
      have := widsL_step' h3 i (by simpa using h) (by rw [List.length_append, List.length_singleton]; omega)
      simp only [List.length_append, List.length_singleton, List.getElem_cons_succ] at this ⊢
      have e : V.length + 1 + i = V.length + (i + 1) := by omega
      simp only [e] at this
      exact this
theorem widsL_step {q : List St} {W : List Int} (hw : widsL q [] = some W) (i : Nat) (h : i < q.length) : stW q[i] (W.take i) = W[i]'(by have := (widsL_len hw).1; simp at this; omega) := by
  have h2 : ([] : List Int).length + i < W.length := by have := (widsL_len hw).1; simp at this ⊢; omega
  have := widsL_step' hw i h h2
  simp only [List.length_nil, Nat.zero_add] at this
  exact this
theorem stW_list {s : St} {V : List Int} (h : stW s V ≠ 0) : s.list.length ≤ 8 := by
  unfold stW at h
  by_cases k1 : s.kind = 1
  · rw [if_pos k1] at h
    by_cases h2 : tblB s = true
    · unfold tblB at h2
      simp only [Bool.and_eq_true, beq_iff_eq] at h2
      omega
    · rw [if_neg h2] at h; exact absurd rfl h
  · rw [if_neg k1] at h
    by_cases h2 : badStep s ((V.length : Int) - 1) = true
    · rw [if_pos h2] at h; exact absurd rfl h
    · rw [if_neg h2] at h
      by_cases k3 : s.kind = 3
      · rcases stW_ok (s := s) (W := V) (by unfold stW; rw [if_neg k1, if_neg h2]; exact h) with ⟨q, -⟩ | ⟨-, -, -, -, hk⟩
        · exact absurd q k1
        · rcases hk with ⟨q, hk⟩ | ⟨q, hk⟩ | ⟨q, hk⟩ | ⟨q, hk⟩ | q | ⟨q, hk⟩ | ⟨q, hk⟩ <;> first | exact hk.1 | omega
      · unfold badStep at h2
        simp only [Bool.or_eq_true, not_or, Bool.not_eq_true, bne_eq_false_iff_eq] at h2
        have := h2.2.2.2
        have hk : (s.kind == 3) = false := by simpa using k3
        rw [hk] at this
        have := of_decide_eq_false this
        omega
end Go.Proofs.YtldlmkfigjicgaaGreatDoor
