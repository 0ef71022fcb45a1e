/- MeetB, Settled, Lat, Dots -/
import Derived.Test.YtogegnikpjcpdaaCk07
import Derived.Test.YtogegnikpjcpdaaCk06
/- stable.Meet: right contexts. -/
namespace Go.Proofs.Ytogegnikpjcpdaa
set_option linter.unusedVariables false
open Go.ChangeShapes Go.WideShapes Go.ChangeAt Go.RowKit

theorem flat_cloud_len (L : List Ctx) : ∀ (N : List Ctx), (∀ c ∈ N, c.cloud.length ≤ 400) → (N.flatMap (cloudOf L)).length ≤ 400 * N.length
  | [], _ => by simp
  | c :: N, h => by
    have h1 := flat_cloud_len L N (fun x hx => h x (by simp [hx]))
    have h2 := h c (by simp)
    have h3 : (cloudOf L c).length ≤ c.cloud.length := List.length_filter_le _ _
    simp only [List.flatMap_cons, List.length_append, List.length_cons]
    omega

set_option maxHeartbeats 4000000 in
set_option maxRecDepth 100000 in
theorem meet_good (L : List CR) (A : Option Addr) (k : Nat) (w : World) (hr : RowC w w.heap.size A L) (hl : L.length ≤ 2097152) (hL : L ≠ []) (h0 : ∀ c ∈ CR.ctxs L, checkI c = 0) :
    Calls Try.prog 35 #[.slice A L.length k] w (CtxErr (meetX (CR.ctxs L)) (meetE (CR.ctxs L)) w) := by
  have hpos : 0 < L.length := List.length_pos_iff.2 hL
  have hz : ((L.length : Int) == 0) = false := by simp only [beq_eq_false_iff_ne, ne_eq]; omega
  have HALL := hid (fun w1 (hb : Below w.heap.size w w1) d => all_any L d A k w1 (hr.step hb) (by omega))
  have HR := hid hr
  obtain ⟨M, hM⟩ : ∃ M, M = CR.ctxs L := ⟨_, rfl⟩
  have hML : M.length = L.length := by rw [hM]; simp
  have hMg : ∀ i (h : i < L.length), M[i]'(by rw [hML]; exact h) = L[i].c := fun i h => by subst hM; exact ctxs_get L i h
  rw [← hM] at h0 HALL ⊢
  have hne : M ≠ [] := by intro e; rw [e] at hML; simp at hML; omega
  have hok : ∀ c ∈ M, okC c := fun c hc => ((checkI_iff c).1 (h0 c hc)).1
  have h4 : ∀ c ∈ M, c.cloud.length ≤ 400 := fun c hc => ((checkI_iff c).1 (h0 c hc)).2
  have hb0 : badL M = 0 := badL_zero.2 h0
  have hX : meetX M = if 400 < (meetC M).cloud.length then ⟨0, 0, 0, 0, []⟩ else meetC M := by unfold meetX; simp [hne, hb0]
  have hE : meetE M = if 400 < (meetC M).cloud.length then 2 else 0 := by unfold meetE; simp [hne, hb0]
  obtain ⟨m0, hm0⟩ : ∃ m0 : Ctx, m0 = { M.headD ⟨0, 0, 0, 0, []⟩ with cloud := [] } := ⟨_, rfl⟩
  have hmin : minL M = M.foldl minC m0 := by rw [hm0]; rfl
  have hm0e : m0 = ⟨L[0].c.c0, L[0].c.c1, L[0].c.c2, L[0].c.c3, []⟩ := by
    rw [hm0, ← hMg 0 hpos]
    cases M with
    | nil => exact absurd rfl hne
    | cons a N => rfl
  have hst1 : ∀ i (h : i < L.length), (M.take (i + 1)).foldl minC m0 = minC ((M.take i).foldl minC m0) L[i].c := fun i h => by
    rw [take_step minC m0 M i (by rw [hML]; exact h), hMg i h]
  have hst2 : ∀ i (h : i < L.length), (M.take (i + 1)).flatMap (cloudOf M) = (M.take i).flatMap (cloudOf M) ++ cloudOf M L[i].c := fun i h => by
    rw [List.take_succ_eq_append_getElem (show i < M.length by rw [hML]; exact h), List.flatMap_append, hMg i h]; simp
  have hcl : ∀ i, ((M.take i).flatMap (cloudOf M)).length ≤ 400 * L.length := fun i => by
    have h := flat_cloud_len M (M.take i) (fun c hc => h4 c (List.mem_of_mem_take hc))
    have h2 : (M.take i).length ≤ L.length := by rw [← hML, List.length_take]; omega
    omega
  have HCK := hid (fun i (h : i < L.length) => h0 _ (by rw [← hMg i h]; exact List.getElem_mem _ : L[i].c ∈ M))
  have HX := hid hX
  have HE := hid hE
  have HMIN := hid hmin
  have HM0 := hid hm0e
  have HST1 := hid hst1
  have HST2 := hid hst2
  have HCL := hid hcl
  have HML := hid hML
  have HCA : Hid (∀ d ∈ cloudAll M, rightB d.1 d.2 = true) := hid (fun d hd => by
    obtain ⟨⟨c, hc, h⟩, -⟩ := cloudAll_mem.1 hd
    exact ((hok c hc).2.1 d h).1)
  have HIN : Hid (clkIn (minL M)) := hid (minL_in hne (fun c hc => (hok c hc).1))
  have HL4 := hid (fun i (h : i < L.length) => h4 _ (by rw [← hMg i h]; exact List.getElem_mem _ : L[i].c ∈ M))
  clear hr h0 hok h4 hb0 hX hE hm0 hm0e hmin hst1 hst2 hcl hML hMg hM hL hne
  obtain ⟨i0, hi0, hz0, hz1, hz2⟩ := info_parts info_dot
  go_enter Try.func35, Try.ntmps35
  go_wp2
  obtain ⟨W0, hW0⟩ : ∃ W0 : World, W0 = w.alloc (.cells #[.int .i64 0, .int .i64 0, .int .i64 0, .int .i64 0, .slice none 0 0] 25) := ⟨_, rfl⟩
  rw [← hW0]
  have HB0 := hid (show Below w.heap.size w W0 by rw [hW0]; (repeat' (first | (with_reducible exact Below.refl _ _) | (with_reducible assumption) | (with_reducible refine below_drewN ?_ _) | (with_reducible refine Below.drew ?_) | (with_reducible refine Below.alloc ?_ ?_ _) | (with_reducible refine Below.setCell ?_ ?_ _) | (refine Below.trans ?_ (Below.mono (by assumption) ?_)) | go_size)))
  have HXR := hid (show Blk W0 w.heap.size #[.int .i64 0, .int .i64 0, .int .i64 0, .int .i64 0, .slice none 0 0] 25 by rw [hW0]; exact Blk.new _ _ _)
  clear hW0
  go_loopw [24] (fun s24 wr => ∃ i : Nat, i ≤ L.length ∧ s24 = .int .i64 i ∧ Below W0.heap.size W0 wr) (fun s24 _ => L.length - (intOf s24).toNat)
  case atStart => exact ⟨0, by omega, rfl, Below.refl _ _⟩
  case round =>
    obtain ⟨i, hi, rfl, hbw⟩ := hrel
    by_cases hlt : i < L.length
    · obtain ⟨b, off, hA, hb, c0, c1, c2, c3, c4, rx, lx⟩ := (HR.out.step (Below.step' HB0.out hbw)).at_ hlt
      subst hA
      have hq := HCK.out i hlt
      have hc := fun w1 (hb1 : Below wr.heap.size wr w1) => check_any L[i].c L[i].A L[i].k w1 (rx.step hb1) lx
      rw [hq] at hc
      have HC := hid hc
      have HBW := hid hbw
      clear hbw rx hc hq
      generalize L[i] = x at *
      obtain ⟨⟨x0, x1, x2, x3, xl⟩, xA, xk⟩ := x
      simp only at c0 c1 c2 c3 c4
      simp only [cval] at HC
      go_wp2_with fail
      refine (HC.out _ ((Below.refl _ _).alloc (Nat.le_refl _) _)).mono ?_
      rintro e w1 ⟨rfl, hb1⟩
      have HB1 := hid (show Below wr.heap.size wr w1 from (by refine Below.step' ?_ hb1; (repeat' (first | (with_reducible exact Below.refl _ _) | (with_reducible assumption) | (with_reducible refine below_drewN ?_ _) | (with_reducible refine Below.drew ?_) | (with_reducible refine Below.alloc ?_ ?_ _) | (with_reducible refine Below.setCell ?_ ?_ _) | (refine Below.trans ?_ (Below.mono (by assumption) ?_)) | go_size))))
      clear hb1 c0 c1 c2 c3 c4
      go_wp2
      go_roundw
      case rel => exact ⟨i + 1, by omega, by go_num, Below.step' HBW.out HB1.out⟩
      case measure => simp [intOf]; omega
    · have HBW := hid hbw
      have hsz := HXR.out.lt
      have hszw := hbw.size
      obtain ⟨b, off, hA, hb, c0, c1, c2, c3, c4, -, -⟩ := (HR.out.step (Below.step' HB0.out hbw)).at_ hpos
      subst hA
      clear hbw hi
      simp only [Nat.zero_mul, Nat.add_zero] at c0 c1 c2 c3 c4
      have hm0 := HM0.out
      generalize L[0] = x at *
      obtain ⟨⟨x0, x1, x2, x3, xl⟩, xA, xk⟩ := x
      simp only at c0 c1 c2 c3 c4 hm0
      clear HM0
      have HM0 := hid hm0
      clear hm0
      obtain ⟨w1, rfl⟩ : ∃ w1 : World, w1 = wr := ⟨_, rfl⟩
      go_upto_region 11 with fail
      clear hlt c0 c1 c2 c3 c4 hb
      obtain ⟨P, hP⟩ : ∃ P, P = w1.heap.size := ⟨_, rfl⟩
      obtain ⟨W2, hW2⟩ : ∃ W2 : World, W2 = w1.alloc (.cells #[.int .i64 x0, .int .i64 x1, .int .i64 x2, .int .i64 x3, .slice none 0 0] 25) := ⟨_, rfl⟩
      rw [← hW2, ← hP]
      have hB2 : Below w.heap.size w W2 := by rw [hW2]; exact alloc_below (Below.step' HB0.out HBW.out) _
      have HXP := hid (show Blk W2 P #[.int .i64 x0, .int .i64 x1, .int .i64 x2, .int .i64 x3, .slice none 0 0] 25 by rw [hW2, hP]; exact Blk.new _ _ _)
      have HXR2 := hid (show Blk W2 w.heap.size #[.int .i64 0, .int .i64 0, .int .i64 0, .int .i64 0, .slice none 0 0] 25 by rw [hW2]; exact (HXR.out.step HBW.out).alloc _)
      have hwP : w.heap.size < P := by omega
      have hP2 : P < W2.heap.size := HXP.out.lt
      have HB2 := hid hB2
      clear hW2 hP hB2 hszw hsz HB0 HBW HXR HCK
      go_wp2
      go_loopw [8, 42] (fun s8 s42 wr => ∃ (i : Nat) (m : Ctx), i ≤ L.length ∧ s42 = .int .i64 i ∧ m = (M.take i).foldl minC m0 ∧ Blk wr P #[.int .i64 m.c0, .int .i64 m.c1, .int .i64 m.c2, .int .i64 m.c3, .slice none 0 0] 25 ∧
        wr.ownsRow (P + 1) 27 2 s8 ((M.take i).flatMap (cloudOf M)).length (dcells ((M.take i).flatMap (cloudOf M))) ∧ Below P W2 wr) (fun _ s42 _ => L.length - (intOf s42).toNat)
      case atStart => exact ⟨0, m0, by omega, rfl, rfl, by rw [HM0.out]; exact HXP.out, by simpa using World.ownsRow_nil _ _ _ _, Below.refl _ _⟩
      case round =>
        obtain ⟨i, m, hi, rfl, hm, hxp, hown, hbw⟩ := hrel
        obtain ⟨O, hO⟩ : ∃ O, O = (M.take i).flatMap (cloudOf M) := ⟨_, rfl⟩
        rw [← hO] at hown
        obtain ⟨A8, c8, rfl⟩ := own_form hown
        have CLi := HCL.out i
        rw [← hO] at CLi
        have HO := hid hO
        clear hO
        by_cases hlt : i < L.length
        · have hbww : Below w.heap.size w wr := HB2.out.trans (hbw.mono (by omega))
          obtain ⟨b', off', hA, hb, c0, c1, c2, c3, c4, -, lx⟩ := (HR.out.step hbww).at_ hlt
          injection hA with hA
          injection hA with hA1 hA2
          subst hA1 hA2
          have RX := hid (fun w1 (hb1 : Below w.heap.size w w1) => ((HR.out.step hb1).2 L[i] (List.getElem_mem _)).1)
          have S1 := hid (HST1.out i hlt)
          have S2 := hid (HST2.out i hlt)
          have S2 := S2.out
          have L4 := HL4.out i hlt
          rw [← HO.out] at S2
          have S2 := hid S2
          generalize L[i] = x at *
          obtain ⟨⟨y0, y1, y2, y3, yl⟩, yA, yk⟩ := x
          simp only at c0 c1 c2 c3 c4 L4 RX S2
          have k0 := clk0 y0 y1 y2 y3
          have k1 := clk1 y0 y1 y2 y3
          have k2 := clk2 y0 y1 y2 y3
          have k3 := clk3 y0 y1 y2 y3
          obtain ⟨⟨p0, p1, p2, p3, p4⟩, f0, f1, f2, f3, f4⟩ := hxp.five
          have hpl := hxp.lt
          have np : (P = wr.heap.size) = False := by simp; omega
          have HM := hid hm
          have HXP1 := hid hxp
          have HOWN := hid hown
          have HBW := hid hbw
          clear hm hxp hown hbw hbww
          go_wp2
          go_rounds 5
          obtain ⟨W3, hW3⟩ : ∃ W3 : World, W3 = ((((wr.setCell ⟨P, 0, none⟩ (.int .i64 (min m.c0 y0))).setCell ⟨P, 1, none⟩ (.int .i64 (min m.c1 y1))).setCell ⟨P, 2, none⟩ (.int .i64 (min m.c2 y2))).setCell ⟨P, 3, none⟩ (.int .i64 (min m.c3 y3))).alloc
            (.cells #[.int .i64 y0, .int .i64 y1, .int .i64 y2, .int .i64 y3, .slice yA yl.length yk] 25) := ⟨_, rfl⟩
          rw [← hW3]
          have hxp3 : Blk W3 P #[.int .i64 (min m.c0 y0), .int .i64 (min m.c1 y1), .int .i64 (min m.c2 y2), .int .i64 (min m.c3 y3), .slice none 0 0] 25 := by
            rw [hW3]; exact ((((HXP1.out.set 0 _).set 1 _).set 2 _).set 3 _).alloc _
          have hown3 : W3.ownsRow (P + 1) 27 2 (.slice A8 O.length c8) O.length (dcells O) := by
            rw [hW3]
            exact (ownsRow_setCell_below (ownsRow_setCell_below (ownsRow_setCell_below (ownsRow_setCell_below HOWN.out (a := ⟨P, 0, none⟩) (Nat.lt_succ_self P) _) (a := ⟨P, 1, none⟩) (Nat.lt_succ_self P) _) (a := ⟨P, 2, none⟩) (Nat.lt_succ_self P) _) (a := ⟨P, 3, none⟩) (Nat.lt_succ_self P) _).alloc _
          have hbw3 : Below P W2 W3 := by
            rw [hW3]
            exact ((((HBW.out.setCell (p := ⟨P, 0, none⟩) (Nat.le_refl _) _).setCell (p := ⟨P, 1, none⟩) (Nat.le_refl _) _).setCell (p := ⟨P, 2, none⟩) (Nat.le_refl _) _).setCell (p := ⟨P, 3, none⟩) (Nat.le_refl _) _).alloc (by simp; omega) _
          have HXP3 := hid hxp3
          have HOWN3 := hid hown3
          have HBW3 := hid hbw3
          clear hW3 hxp3 hown3 hbw3 p0 p1 p2 p3 p4 f0 f1 f2 f3 f4 c0 c1 c2 c3 c4 k0 k1 k2 k3 np HXP1 HOWN HBW hb
          obtain ⟨wo, rfl⟩ : ∃ wo : World, wo = wr := ⟨_, rfl⟩
          go_loopw [8, 65] (fun s8 s65 wr => ∃ j : Nat, j ≤ yl.length ∧ s65 = .int .i64 j ∧ Blk wr P #[.int .i64 (min m.c0 y0), .int .i64 (min m.c1 y1), .int .i64 (min m.c2 y2), .int .i64 (min m.c3 y3), .slice none 0 0] 25 ∧
            wr.ownsRow (P + 1) 27 2 s8 (O ++ (yl.take j).filter (allB M)).length (dcells (O ++ (yl.take j).filter (allB M))) ∧ Below P W2 wr) (fun _ s65 _ => yl.length - (intOf s65).toNat)
          case atStart => exact ⟨0, by omega, rfl, HXP3.out, by simpa using HOWN3.out, HBW3.out⟩
          case round =>
            obtain ⟨j, hj, rfl, hxp4, hown4, hb4⟩ := hrel
            have hl4 : (O ++ (yl.take j).filter (allB M)).length ≤ 400 * L.length + 400 := by
              have := List.length_filter_le (allB M) (yl.take j)
              simp only [List.length_append, List.length_take] at *
              omega
            have hst : ∀ hj : j < yl.length, O ++ (yl.take (j + 1)).filter (allB M) = (O ++ (yl.take j).filter (allB M)) ++ (if allB M yl[j] = true then [yl[j]] else []) := by
              intro hj
              rw [List.take_succ_eq_append_getElem hj, List.filter_append, List.append_assoc]
              congr 2
              rw [List.filter_cons, List.filter_nil]
            obtain ⟨o4, ho4⟩ : ∃ o4, o4 = O ++ (yl.take j).filter (allB M) := ⟨_, rfl⟩
            rw [← ho4] at hown4 hl4 hst
            obtain ⟨A4, c4, rfl⟩ := own_form hown4
            have HO4 := hid ho4
            clear ho4
            have hB : Below w.heap.size w wr := HB2.out.trans (hb4.mono (by omega))
            have hpl4 := hxp4.lt
            by_cases hjl : j < yl.length
            · have HST := hid (hst hjl)
              clear hst
              obtain ⟨b', off', hA', hb', h0, h1⟩ := (RX.out wr hB).dot hjl
              subst hA'
              have HXP4 := hid hxp4
              have HOWN4 := hid hown4
              have HB4 := hid hb4
              have HBB := hid hB
              clear hown4 hb4 hB hxp4
              generalize yl[j] = d at *
              obtain ⟨d0, d1⟩ := d
              simp only at h0 h1
              have hc := fun w1 (hb : Below w.heap.size w w1) => HALL.out w1 hb (d0, d1)
              cases hq : allB M (d0, d1)
              all_goals
                rw [hq] at hc
                have HC := hid hc
                have HQ := hid hq
                clear hc hq
                go_wp2_with fail
                refine (HC.out _ (HBB.out.alloc HBB.out.size _)).mono ?_
                rintro e w5 ⟨rfl, hb5⟩
                have hB5 : Below wr.heap.size wr w5 := (by refine Below.step' ?_ hb5; (repeat' (first | (with_reducible exact Below.refl _ _) | (with_reducible assumption) | (with_reducible refine below_drewN ?_ _) | (with_reducible refine Below.drew ?_) | (with_reducible refine Below.alloc ?_ ?_ _) | (with_reducible refine Below.setCell ?_ ?_ _) | (refine Below.trans ?_ (Below.mono (by assumption) ?_)) | go_size)))
              · have HOWN5 := hid (own_later HOWN4.out hB5)
                have HXP5 := hid (HXP4.out.step hB5)
                have HB5 := hid (HB4.out.trans (hB5.mono (Nat.le_of_lt hpl4)))
                clear hb5 hB5 h0 h1
                go_wp2
                go_roundw
                case rel =>
                  refine ⟨j + 1, by omega, by go_num, HXP5.out, ?_, HB5.out⟩
                  rw [HST.out, HQ.out, if_neg (by simp), List.append_nil]
                  exact HOWN5.out
                case measure => simp [intOf]; omega
              · have hx5 : Blk w5 wr.heap.size #[.int .i64 d0, .int .i64 d1] 27 := (Blk.new wr _ _).step hb5
                have c5 := hx5.cells.1
                have HOWN5 := hid (own_later HOWN4.out hB5)
                have HXP5 := hid (HXP4.out.step hB5)
                have HB5 := hid (HB4.out.trans (hB5.mono (Nat.le_of_lt hpl4)))
                have hs5 := hB5.size
                clear hb5 hB5 hx5 h0 h1
                go_wp2_with (at_builtin; refine wpList_append_own _ rfl _ _ 23 rfl (P + 1) 27 i0 _ 2 16 Try.underlying23 hi0 hz0 hz1 hz2 rfl (by decide) _ _ _ rfl (HOWN5.out.alloc _) ⟨w5.heap.size, 0, none⟩ 1 1 (dcells [(d0, d1)]) rfl rfl (news_new w5 _ _ _ _ rfl) (dcells_one _) ?_ ?_ ?_ ?_; rotate_right; intro v6 w6 hown6 hg6 _; rotate_left; (simp only [maxLen]; omega); (omega); (simp; omega))
                go_roundw
                case rel =>
                  refine ⟨j + 1, by omega, by go_num, (HXP5.out.alloc _).grown' hg6 (own_ne_lo HOWN5.out P (Nat.lt_succ_self P)), ?_, (HB5.out.alloc (by omega) _).grown hg6 (by simp; omega) (fun g e => by have := (HOWN5.out.lt g e).1; omega)⟩
                  rw [HST.out, HQ.out, if_pos rfl]
                  simpa [dcells] using hown6
                case measure => simp [intOf]; omega
            · have e4 : (M.take (i + 1)).flatMap (cloudOf M) = o4 := by
                rw [S2.out, HO4.out, List.take_of_length_le (by omega)]; rfl
              have HE4 := hid e4
              have HXP4 := hid hxp4
              have HOWN4 := hid hown4
              have HB4 := hid hb4
              clear hxp4 hown4 hb4 hB hst e4
              go_wp2
              go_roundw
              case rel => exact ⟨i + 1, minC m ⟨y0, y1, y2, y3, yl⟩, by omega, by go_num, by rw [S1.out, ← HM.out], HXP4.out, by rw [HE4.out]; exact HOWN4.out, HB4.out⟩
              case measure => simp [intOf]; omega
        · have e1 : i = L.length := by omega
          have e2 : O = cloudAll M := by rw [HO.out, List.take_of_length_le (by rw [HML.out]; omega)]; rfl
          have e3 : m = minL M := by rw [hm, HMIN.out, List.take_of_length_le (by rw [HML.out]; omega)]
          clear hm
          subst e3
          have hpk : meetC M = (cpt (O.mergeSort dotLe)).foldl packStep ⟨(minL M).c0, (minL M).c1, (minL M).c2, (minL M).c3, []⟩ := by rw [e2]; rfl
          have hin := HIN.out
          rw [minL_eta] at hin
          have hor : ∀ d ∈ O, rightB d.1 d.2 = true := by rw [e2]; exact HCA.out
          obtain ⟨mm, hmm⟩ : ∃ mm, mm = minL M := ⟨_, rfl⟩
          rw [← hmm] at hpk hin hxp
          have HPK := hid hpk
          have HCI := hid hin
          have HRT := hid hor
          have HXP1 := hid hxp
          have HBW := hid hbw
          have hpl := hxp.lt
          have HS := hid (sort_own O wr hown (by omega))
          have HOB := hid (own_ne_lo hown P (Nat.lt_succ_self P))
          have HOL := hid (fun g e => (hown.lt g e).1)
          clear hpk hin hor hxp hbw hown e2 hmm HALL HST1 HST2 HCL HIN HCA HO HMIN
          go_wp2_with fail
          refine HS.out.mono ?_
          rintro e w5 ⟨rfl, hown5, hg5⟩
          have hsl : (O.mergeSort dotLe).length = O.length := by simp
          have hown5' : w5.ownsRow (P + 1) 27 2 (.slice A8 O.length c8) (O.mergeSort dotLe).length (dcells (O.mergeSort dotLe)) := by rw [hsl]; exact hown5
          have HXP5 := hid (HXP1.out.grown' hg5 HOB.out)
          have HB5 := hid (HBW.out.grown hg5 (by omega) (fun g e => by have := HOL.out g e; omega))
          have hs5 := hg5.size
          have HC := hid (compact_own (O.mergeSort dotLe) w5 hown5' (by omega))
          have HOB5 := hid (own_ne_lo hown5' P (Nat.lt_succ_self P))
          clear hown5 hown5' hg5
          go_wp2_with fail
          refine HC.out.mono ?_
          rintro e w4 ⟨v2, rfl, hown4, hg4, hv2⟩
          obtain ⟨A2, k4, rfl⟩ := own_form hown4
          have hmr : ∀ d ∈ cpt (O.mergeSort dotLe), rightB d.1 d.2 = true := fun d hd => HRT.out d (List.mem_mergeSort.1 ((cpt_mem _ _).1 hd))
          have hml : (cpt (O.mergeSort dotLe)).length ≤ 400 * 2097152 := by have := cpt_length (O.mergeSort dotLe); omega
          obtain ⟨N, hN⟩ : ∃ N, N = cpt (O.mergeSort dotLe) := ⟨_, rfl⟩
          rw [← hN] at hown4 hmr hml HPK ⊢
          have HXP4 := hid (HXP5.out.grown' hg4 HOB5.out)
          have hpl4 := HXP4.out.lt
          have hb4 : Below P W2 w4 := HB5.out.grown hg4 (by omega) (fun g e => by have := HOL.out g e; omega)
          have HB4 := hid (HB2.out.trans (hb4.mono (by omega)))
          have HXR4 := hid (HXR2.out.thru hb4 hwP)
          have HMR := hid hmr
          have HM4 := hid hown4
          have HMO := hid (show (Value.slice A2 N.length k4).ownBlock = none ∨ (Value.slice A2 N.length k4).ownBlock ≠ some P from .inr (fun e => by have := (hown4.lt P e).1; omega))
          clear hown4 hg4 hv2 hsl hmr hN hb4 hs5 HC HS HXP5 HB5 HOB5 HOB HXP1 HBW HRT HOL hpl CLi HB2 HXP HXR2
          go_wp2
          go_loopw [83] (fun s83 wr => ∃ (k kk : Nat) (c : Ctx) (A' : Option Addr), k ≤ N.length ∧ s83 = .int .i64 k ∧ c = (N.take k).foldl packStep ⟨mm.c0, mm.c1, mm.c2, mm.c3, []⟩ ∧ clkIn c ∧ c.cloud.length ≤ k ∧
            Blk wr P (cbox c A' kk) 25 ∧ wr.ownsRow w4.heap.size 27 2 (.slice A' c.cloud.length kk) c.cloud.length (dcells c.cloud) ∧ w4.grownBy wr (some P)) (fun s83 _ => N.length - (intOf s83).toNat)
          case atStart => exact ⟨0, 0, ⟨mm.c0, mm.c1, mm.c2, mm.c3, []⟩, none, by omega, rfl, by simp, HCI.out, by simp, HXP4.out, World.ownsRow_nil _ _ _ _, grown_refl _ _⟩
          case round =>
            obtain ⟨k, kk, c, A', hk, rfl, hce, hcin, hcl, hP, how, hbw⟩ := hrel
            have HCE := hid hce
            have HP := hid hP
            have HOW := hid how
            have HBW := hid hbw
            have hszr := hbw.size
            have hpr := hP.lt
            by_cases hlt2 : k < N.length
            · obtain ⟨b, off, hA, hb, h0, h1⟩ := (Row.of_own (HM4.out.kept hbw HMO.out)).dot hlt2
              subst hA
              have hrt := HMR.out N[k] (List.getElem_mem _)
              have htk := List.take_succ_eq_append_getElem hlt2
              generalize hd : N[k] = d at *
              obtain ⟨n, s⟩ := d
              have hR : 0 ≤ n ∧ n < 4 ∧ 1 ≤ s ∧ s ≤ 1099511627776 := by simpa [rightB, and_assoc] using hrt
              obtain ⟨n0, n4, s0, s1⟩ := hR
              have en : wr.cell? ⟨P, n.toNat, none⟩ = some (.int .i64 (c.at_ n)) := by rw [hP.cells.1, at_cell c n n0 n4]
              have fn : wr.frozen? ⟨P, n.toNat, none⟩ = false := hP.cells.2 _
              have e4 : wr.cell? ⟨P, 4, none⟩ = some (.slice A' c.cloud.length kk) := by rw [hP.cells.1]; rfl
              have f4 : wr.frozen? ⟨P, 4, none⟩ = false := hP.cells.2 _
              have ha := at_in hcin n
              have HTK := hid htk
              have HCIN := hid hcin
              have HST := hid (packStep_in hcin hrt)
              clear hce hcin hP how hbw hd hrt htk
              obtain ⟨a0, a1⟩ := ha
              have hb3 : b < wr.heap.size + 1 := by omega
              have hne1 : (P = wr.heap.size) = False := by simp; omega
              have zw : IntKind.i64.wrap (c.at_ n + 1) = c.at_ n + 1 := IntWalk.i64_in _ (by omega)
              simp only at h0 h1
              generalize hat : c.at_ n = a at *
              have HAT := hid hat
              clear hat
              by_cases q1 : s ≤ a
              · have q3 : (s == a + 1) = false := by simp only [beq_eq_false_iff_ne, ne_eq]; omega
                have q5 : decide (a < s) = false := by simp; omega
                go_wp2
                go_roundw
                case rel =>
                  refine ⟨k + 1, kk, c, A', by omega, by go_num, ?_, HCIN.out, by omega, HP.out.alloc _, HOW.out.alloc _, gb_below HBW.out (by (repeat' (first | (with_reducible exact Below.refl _ _) | (with_reducible assumption) | (with_reducible refine below_drewN ?_ _) | (with_reducible refine Below.drew ?_) | (with_reducible refine Below.alloc ?_ ?_ _) | (with_reducible refine Below.setCell ?_ ?_ _) | (refine Below.trans ?_ (Below.mono (by assumption) ?_)) | go_size)))⟩
                  rw [HTK.out, List.foldl_append, ← HCE.out]
                  simp only [List.foldl_cons, List.foldl_nil, packStep]
                  rw [if_pos (by rw [HAT.out]; exact q1)]
                case measure => simp [intOf]; omega
              · by_cases q2 : s = a + 1
                · have q3 : (s == a + 1) = true := by simp [q2]
                  have Q2 := hid q2
                  have q4 : ¬ (s ≤ a) := q1
                  clear q2
                  go_wp2
                  go_roundw
                  case rel =>
                    refine ⟨k + 1, kk, c.inc n, A', by omega, by go_num, ?_, ?_, by rw [inc_cloud]; omega, ?_, ?_, ?_⟩
                    · rw [HTK.out, List.foldl_append, ← HCE.out]
                      simp only [List.foldl_cons, List.foldl_nil, packStep]
                      rw [if_neg (by rw [HAT.out]; exact q4), if_pos (by rw [HAT.out]; exact Q2.out)]
                    · have := HST.out
                      simp only [packStep] at this
                      rwa [if_neg (by rw [HAT.out]; exact q4), if_pos (by rw [HAT.out]; exact Q2.out)] at this
                    · have e := HP.out.set n.toNat (.int .i64 (a + 1))
                      have e2 := inc_cells c n n0 n4 (.slice A' c.cloud.length kk)
                      rw [HAT.out] at e2
                      simp only [cbox] at e ⊢
                      rw [e2] at e
                      rw [inc_cloud]
                      exact e.alloc _
                    · rw [inc_cloud]
                      exact (ownsRow_setCell_below HOW.out (by omega) _).alloc _
                    · exact gb_below (gb_set HBW.out _ _) (by (repeat' (first | (with_reducible exact Below.refl _ _) | (with_reducible assumption) | (with_reducible refine below_drewN ?_ _) | (with_reducible refine Below.drew ?_) | (with_reducible refine Below.alloc ?_ ?_ _) | (with_reducible refine Below.setCell ?_ ?_ _) | (refine Below.trans ?_ (Below.mono (by assumption) ?_)) | go_size)))
                  case measure => simp [intOf]; omega
                · have q3 : (s == a + 1) = false := by simp [q2]
                  have q5 : decide (a < s) = true := by simp; omega
                  clear q2
                  have HOB := hid (fun g hg => (HOW.out.lt g hg).1)
                  go_wp2_with (at_builtin; refine wpList_append_lies _ rfl _ _ 23 rfl w4.heap.size 27 i0 _ 2 16 Try.underlying23 hi0 hz0 hz1 hz2 rfl (by decide) (.slice A' c.cloud.length kk) c.cloud.length (dcells c.cloud) rfl ((HOW.out.alloc _).alloc _) ⟨wr.heap.size + 1, 0, none⟩ 1 1 (dcells [(n, s)]) rfl rfl (news_new _ n s _ _ (by simp)) (dcells_one _) (by decide) ?_ ?_ ?_ (wr.heap.size + 1 + 1) (by simp) ?_; rotate_right; intro g5 cap5 w5 hown5 hg5 hat5 hlt5; have hP5 := ((HP.out.alloc _).alloc _).grown hg5 (fun e => by have := HOB.out _ e.symm; omega); have e5 : w5.cell? ⟨P, 4, none⟩ = some (.slice A' c.cloud.length kk) := (hP5.cells.1 4).trans rfl; have f5 : w5.frozen? ⟨P, 4, none⟩ = false := hP5.cells.2 _; have HP5 := hid hP5; clear hP5; rotate_left; (simp only [maxLen]; omega); (omega); (simp; omega))
                  go_roundw
                  case rel =>
                    have e5 := HP5.out.set 4 (.slice (some ⟨g5, 0, none⟩) (c.cloud.length + 1) cap5)
                    refine ⟨k + 1, cap5, { c with cloud := c.cloud ++ [(n, s)] }, some ⟨g5, 0, none⟩, by omega, by go_num, ?_, HCIN.out, by simp; omega, ?_, ?_, ?_⟩
                    · rw [HTK.out, List.foldl_append, ← HCE.out]
                      simp only [List.foldl_cons, List.foldl_nil, packStep]
                      rw [if_neg (by rw [HAT.out]; exact q1), if_neg (by rw [HAT.out]; simpa using q3)]
                    · simpa [cbox] using e5
                    · have e6 := ownsRow_setCell_below hown5 (a := ⟨P, 4, none⟩) (by omega) (.slice (some ⟨g5, 0, none⟩) (c.cloud.length + 1) cap5)
                      simpa [dcells] using e6
                    · exact gb_set (gb_own (gb_below HBW.out (by (repeat' (first | (with_reducible exact Below.refl _ _) | (with_reducible assumption) | (with_reducible refine below_drewN ?_ _) | (with_reducible refine Below.drew ?_) | (with_reducible refine Below.alloc ?_ ?_ _) | (with_reducible refine Below.setCell ?_ ?_ _) | (refine Below.trans ?_ (Below.mono (by assumption) ?_)) | go_size)))) hg5 HOB.out) _ _
                  case measure => simp [intOf]; omega
            · have hkm : k = N.length := by omega
              have hfin : c = meetC M := by rw [hce, hkm, List.take_length]; exact HPK.out.symm
              have HF := hid hfin
              obtain ⟨⟨e0, e1, e2, e3, e4⟩, -⟩ := hP.five
              have hR := gb_blk hbw HXR4.out (by omega)
              obtain ⟨⟨r0, r1, r2, r3, r4⟩, f0, f1, f2, f3, f4⟩ := hR.five
              have hB := HB4.out.trans (gb_to hbw (Nat.le_of_lt hwP) HB4.out.size)
              have hsz4 := HB4.out.size
              have hwr : w.heap.size < w4.heap.size := by omega
              have hrow := Row.of_own how
              have hnew : NewAt w4.heap.size A' := own_new how (Nat.le_refl _)
              by_cases hq4 : 400 < c.cloud.length
              · have HR5 := hid (Blk.set5 hR (.int .i64 0) (.int .i64 0) (.int .i64 0) (.int .i64 0) (.slice none 0 0))
                have HB5 := hid (Below.set5 hB (Nat.le_refl _) (.int .i64 0) (.int .i64 0) (.int .i64 0) (.int .i64 0) (.slice none 0 0))
                have hq : decide ((400 : Int) < (c.cloud.length : Int)) = true := by simp; omega
                clear hce hkm hfin hcin hP how hbw hR hB hrow hnew
                go_wp2
                obtain ⟨⟨q0, q1, q2, q3, q4⟩, -⟩ := HR5.out.five
                exact bodyPost_ret (v := .tuple #[cval ⟨0, 0, 0, 0, []⟩ none 0, .int .i64 2]) (by simp [results, Try.results35, go_sem, q0, q1, q2, q3, q4]) rfl ⟨none, 0, by rw [HX.out, HE.out, ← HF.out, if_pos hq4, if_pos hq4], by rw [HX.out, ← HF.out, if_pos hq4]; exact Row.nil, HB5.out, fun _ _ _ h => by cases h⟩
              · have HR5 := hid (Blk.set5 hR (.int .i64 c.c0) (.int .i64 c.c1) (.int .i64 c.c2) (.int .i64 c.c3) (.slice A' c.cloud.length kk))
                have HB5 := hid (Below.set5 hB (Nat.le_refl _) (.int .i64 c.c0) (.int .i64 c.c1) (.int .i64 c.c2) (.int .i64 c.c3) (.slice A' c.cloud.length kk))
                have HROW := hid (Row.set5 hrow hnew hwr (.int .i64 c.c0) (.int .i64 c.c1) (.int .i64 c.c2) (.int .i64 c.c3) (.slice A' c.cloud.length kk))
                have hq : decide ((400 : Int) < (c.cloud.length : Int)) = false := by simp; omega
                have HN := hid hnew
                clear hce hkm hfin hcin hP how hbw hR hB hrow hnew
                go_wp2
                obtain ⟨⟨q0, q1, q2, q3, q4⟩, -⟩ := HR5.out.five
                exact bodyPost_ret (v := .tuple #[cval c A' kk, .int .i64 0]) (by simp [results, Try.results35, go_sem, q0, q1, q2, q3, q4]) rfl ⟨A', kk, by rw [HX.out, HE.out, ← HF.out, if_neg hq4, if_neg hq4], by rw [HX.out, ← HF.out, if_neg hq4]; exact HROW.out, HB5.out, fun b off q e => Nat.le_trans hsz4 (HN.out b off q e)⟩

theorem meet_any (L : List CR) (A : Option Addr) (k : Nat) (w : World) (hr : RowC w w.heap.size A L) (hl : L.length ≤ 2097152) :
    Calls Try.prog 35 #[.slice A L.length k] w (CtxErr (meetX (CR.ctxs L)) (meetE (CR.ctxs L)) w) := by
  by_cases hL : L = []
  · subst hL
    exact meet_none A k w
  · have hne : CR.ctxs L ≠ [] := fun e => hL (List.map_eq_nil_iff.1 e)
    by_cases h0 : badL (CR.ctxs L) = 0
    · exact meet_good L A k w hr hl hL (badL_zero.1 h0)
    · have e1 : meetX (CR.ctxs L) = ⟨0, 0, 0, 0, []⟩ := by unfold meetX; rw [if_pos (.inr (.inl h0))]
      have e2 : meetE (CR.ctxs L) = badL (CR.ctxs L) := by unfold meetE; rw [if_neg hne, if_pos h0]
      rw [e1, e2]
      exact meet_bad L A k w hr (by omega) h0
end Go.Proofs.Ytogegnikpjcpdaa
/- stable.Settled. -/
namespace Go.Proofs.Ytogegnikpjcpdaa
set_option linter.unusedVariables false
open Go.ChangeShapes Go.WideShapes Go.ChangeAt Go.RowKit

theorem tabI_zero {t : Tab} (h : tabI t = 0) : checkI t.c = 0 ∧ t.cells.length ≤ 400 ∧ ∀ i, i < t.cells.length → badCel t i = false := by
  have h1 : checkI t.c = 0 := by
    rcases Classical.em (checkI t.c = 0) with q | q
    · exact q
    · rw [tabI_ctx q] at h; exact absurd h q
  have h2 : t.cells.length ≤ 400 := by
    rcases Nat.lt_or_ge 400 t.cells.length with q | q
    · rw [tabI_large h1 q] at h; cases h
    · exact q
  refine ⟨h1, h2, fun i hi => ?_⟩
  cases q : badCel t i
  · rfl
  · rw [tabI_form h1 h2 hi q] at h; cases h
theorem meetX_len (M : List Ctx) : (meetX M).cloud.length ≤ 400 := by
  unfold meetX
  split
  · simp
  · rename_i h; simp only [not_or] at h; omega

def settledX (t : Tab) (M : List Ctx) : List Cel := if tabI t ≠ 0 ∨ meetE M ≠ 0 then [] else t.cells.filter (fun x => hasB (meetX M) x.d)
def settledE (t : Tab) (M : List Ctx) : Int := if tabI t ≠ 0 then tabI t else meetE M

set_option maxHeartbeats 4000000 in
set_option maxRecDepth 100000 in
theorem settled_any (t : Tab) (A : Option Addr) (k : Nat) (B : Option Addr) (m : Nat) (L : List CR) (C : Option Addr) (n : Nat) (w : World) (ra : Row w w.heap.size A (dcells t.c.cloud)) (la : t.c.cloud.length ≤ 9223372036854775807)
    (rb : Row w w.heap.size B (tcells t.cells)) (lb : t.cells.length ≤ 9223372036854775807) (rc : RowC w w.heap.size C L) (lc : L.length ≤ 2097152) :
    Calls Try.prog 41 #[tval t A k B m, .slice C L.length n] w (CelsErr (settledX t (CR.ctxs L)) (settledE t (CR.ctxs L)) w) := by
  have HTC := hid (fun w1 (hb : Below w.heap.size w w1) => tcheck_any t A k B m w1 (ra.step hb) la (rb.step hb) lb)
  have HME := hid (fun w1 (hb : Below w.heap.size w w1) => meet_any L C n w1 (rc.step hb) lc)
  have RB := hid (fun w1 (hb : Below w.heap.size w w1) => rb.step hb)
  have hTZ := @tabI_zero t
  obtain ⟨M, hM⟩ : ∃ M, M = CR.ctxs L := ⟨_, rfl⟩
  rw [← hM] at HME ⊢
  clear hM
  have HXL := meetX_len M
  have hSX : settledX t M = if tabI t ≠ 0 ∨ meetE M ≠ 0 then [] else t.cells.filter (fun x => hasB (meetX M) x.d) := rfl
  have hSE : settledE t M = if tabI t ≠ 0 then tabI t else meetE M := rfl
  obtain ⟨SX, hX⟩ : ∃ SX, SX = settledX t M := ⟨_, rfl⟩
  obtain ⟨SE, hE⟩ : ∃ SE, SE = settledE t M := ⟨_, rfl⟩
  rw [← hX] at hSX ⊢
  rw [← hE] at hSE ⊢
  clear hX hE
  obtain ⟨T, hT⟩ : ∃ T, T = tabI t := ⟨_, rfl⟩
  rw [← hT] at HTC hSX hSE hTZ
  obtain ⟨E, hE⟩ : ∃ E, E = meetE M := ⟨_, rfl⟩
  obtain ⟨X, hX⟩ : ∃ X, X = meetX M := ⟨_, rfl⟩
  rw [← hE, ← hX] at HME
  rw [← hE] at hSX hSE
  rw [← hX] at hSX HXL
  have HSX := hid hSX
  have HSE := hid hSE
  have HTZ := hid hTZ
  clear hSX hSE hT hE hX ra rb rc hTZ
  obtain ⟨⟨c0, c1, c2, c3, cl⟩, l⟩ := t
  obtain ⟨i1, hi0, hz0, hz1, hz2⟩ := info_parts info_cel
  simp only [tval] at *
  go_enter Try.func41, Try.ntmps41
  go_wp2_with fail
  refine (HTC.out _ (by (repeat' (first | (with_reducible exact Below.refl _ _) | (with_reducible assumption) | (with_reducible refine below_drewN ?_ _) | (with_reducible refine Below.drew ?_) | (with_reducible refine Below.alloc ?_ ?_ _) | (with_reducible refine Below.setCell ?_ ?_ _) | (refine Below.trans ?_ (Below.mono (by assumption) ?_)) | go_size)))).mono ?_
  rintro e w1 ⟨rfl, hb1⟩
  have HBW := hid (show Below w.heap.size w w1 from (by refine Below.step' ?_ hb1; (repeat' (first | (with_reducible exact Below.refl _ _) | (with_reducible assumption) | (with_reducible refine below_drewN ?_ _) | (with_reducible refine Below.drew ?_) | (with_reducible refine Below.alloc ?_ ?_ _) | (with_reducible refine Below.setCell ?_ ?_ _) | (refine Below.trans ?_ (Below.mono (by assumption) ?_)) | go_size))))
  have HXT := hid (Blk.step (Blk.new w #[.int .i64 c0, .int .i64 c1, .int .i64 c2, .int .i64 c3, .slice A cl.length k, .slice B l.length m] 59) hb1)
  clear hb1
  by_cases q : T = 0
  rotate_left
  · have q2 : (T != 0) = true := by simpa using q
    have e1 := HSX.out
    have e2 := HSE.out
    rw [if_pos (.inl q)] at e1
    rw [if_pos q] at e2
    have E1 := hid e1
    have E2 := hid e2
    clear q e1 e2
    go_wp2
    go_ret2
    exact ⟨_, ret_vi E2.out.symm, by rw [E1.out]; exact World.ownsRow_nil _ _ _ _, HBW.out⟩
  · subst q
    have hz := HTZ.out
    have hl4 : l.length ≤ 400 := (hz rfl).2.1
    clear hz HTZ
    go_wp2_with fail
    refine (HME.out _ HBW.out).mono ?_
    rintro e w2 ⟨A2, k2, rfl, hr2, hb2, hn2⟩
    replace HXT := hid (HXT.out.step hb2)
    replace HBW := hid (Below.step' HBW.out hb2)
    have HR2 := hid hr2
    clear hb2 hr2 hn2
    by_cases q : E = 0
    rotate_left
    · have q2 : (E != 0) = true := by simpa using q
      have e1 := HSX.out
      have e2 := HSE.out
      rw [if_pos (.inr q)] at e1
      rw [if_neg (by simp)] at e2
      have E1 := hid e1
      have E2 := hid e2
      clear q e1 e2
      simp only [cval]
      go_wp2
      go_ret2
      exact ⟨_, ret_vi E2.out.symm, by rw [E1.out]; exact World.ownsRow_nil _ _ _ _, HBW.out.alloc HBW.out.size _⟩
    · subst q
      have e1 := HSX.out
      have e2 := HSE.out
      rw [if_neg (by simp)] at e1 e2
      have E1 := hid e1
      have E2 := hid e2
      clear e1 e2 HSX HSE
      have hsw := HBW.out.size
      simp only [cval]
      obtain ⟨cHXT, fHXT, sHXT, nHXT⟩ := HXT.out.all
      try simp only [cbox] at cHXT
      go_wp2
      clear cHXT fHXT sHXT nHXT
      obtain ⟨P, hP⟩ : ∃ P, P = w2.heap.size := ⟨_, rfl⟩
      obtain ⟨W2, hW2⟩ : ∃ W2 : World, W2 = w2.alloc (.cells #[.int .i64 X.c0, .int .i64 X.c1, .int .i64 X.c2, .int .i64 X.c3, .slice A2 X.cloud.length k2] 25) := ⟨_, rfl⟩
      rw [← hW2, ← hP]
      have HXX := hid (show Blk W2 P (cbox X A2 k2) 25 by rw [hW2, hP]; exact Blk.new _ _ _)
      have HB2 := hid (show Below w.heap.size w W2 by rw [hW2]; exact HBW.out.alloc HBW.out.size _)
      have HRX := hid (show Row W2 W2.heap.size A2 (dcells X.cloud) by rw [hW2]; exact HR2.out.alloc _)
      clear hW2 hP HR2 HBW HXT HTC HME
      have HH := hid (fun w1 (hb : Below W2.heap.size W2 w1) d => has_any X d A2 k2 w1 (HRX.out.step hb) (by omega))
      simp only [cval, dval] at HH
      go_loopw [9, 28] (fun s9 s28 wr => ∃ i : Nat, i ≤ l.length ∧ s28 = .int .i64 i ∧ wr.ownsRow W2.heap.size 62 5 s9 ((l.take i).filter (fun x => hasB X x.d)).length (tcells ((l.take i).filter (fun x => hasB X x.d))) ∧ Below W2.heap.size W2 wr) (fun _ s28 _ => l.length - (intOf s28).toNat)
      case atStart => exact ⟨0, by omega, rfl, by simpa using World.ownsRow_nil _ _ _ _, Below.refl _ _⟩
      case round =>
        obtain ⟨i, hi, rfl, hown, hbw⟩ := hrel
        have hst : ∀ hj : i < l.length, (l.take (i + 1)).filter (fun x => hasB X x.d) = (l.take i).filter (fun x => hasB X x.d) ++ (if hasB X l[i].d = true then [l[i]] else []) := by
          intro hj
          rw [List.take_succ_eq_append_getElem hj, List.filter_append, List.filter_cons, List.filter_nil]
        have hol : ((l.take i).filter (fun x => hasB X x.d)).length ≤ 400 := by
          have := List.length_filter_le (fun x : Cel => hasB X x.d) (l.take i)
          rw [List.length_take] at this
          omega
        have hfin : ¬ i < l.length → (l.take i).filter (fun x => hasB X x.d) = SX := fun h => by rw [E1.out, List.take_of_length_le (by omega)]
        obtain ⟨O, hO⟩ : ∃ O, O = (l.take i).filter (fun x => hasB X x.d) := ⟨_, rfl⟩
        rw [← hO] at hown hst hol hfin
        clear hO
        obtain ⟨A8, c8, rfl⟩ := own_formS hown
        have hB := Below.step' HB2.out hbw
        have HOWN := hid hown
        have HBW := hid hbw
        have HXR := hid (HXX.out.step hbw)
        have HBB := hid hB
        have HFIN := hid hfin
        clear hown hbw hB hfin
        by_cases hlt : i < l.length
        · obtain ⟨b, off, hA, hb, e0, e1, e2, e3, e4⟩ := (RB.out wr HBB.out).cel hlt
          subst hA
          have HST := hid (hst hlt)
          clear hst
          generalize l[i] = x at *
          obtain ⟨⟨d0, d1⟩, key, col, val⟩ := x
          simp only at e0 e1 e2 e3 e4
          have hneb : (b = wr.heap.size) = False := by simp; omega
          have hh := fun w1 (hb : Below W2.heap.size W2 w1) => HH.out w1 hb (d0, d1)
          cases hq : hasB X (d0, d1)
          all_goals
            rw [hq] at hh
            have HHQ := hid hh
            have HQ := hid hq
            clear hh hq
            obtain ⟨cHXR, fHXR, sHXR, nHXR⟩ := HXR.out.all
            try simp only [cbox] at cHXR
            go_wp2_with fail
            refine (HHQ.out _ (HBW.out.alloc HBW.out.size _)).mono ?_
            rintro e w5 ⟨rfl, hb5⟩
            have hB5 : Below wr.heap.size wr w5 := (by refine Below.step' ?_ hb5; (repeat' (first | (with_reducible exact Below.refl _ _) | (with_reducible assumption) | (with_reducible refine below_drewN ?_ _) | (with_reducible refine Below.drew ?_) | (with_reducible refine Below.alloc ?_ ?_ _) | (with_reducible refine Below.setCell ?_ ?_ _) | (refine Below.trans ?_ (Below.mono (by assumption) ?_)) | go_size)))
            have HOWN5 := hid (own_laterS HOWN.out hB5)
            have HB5 := hid (Below.step' HBW.out hB5)
            have hs5 := (Below.step' HBW.out hB5).size
            have HX5 := hid (Blk.step (Blk.new wr #[.int .i64 d0, .int .i64 d1, .int .i64 key, .int .i64 col, .int .i64 val] 62) hb5)
            clear hb5 hB5 e0 e1 e2 e3 e4 hneb hb
            clear cHXR fHXR sHXR nHXR
          · go_wp2
            go_roundw
            case rel => exact ⟨i + 1, by omega, by go_num, by rw [HST.out, HQ.out, if_neg (by simp), List.append_nil]; exact HOWN5.out, HB5.out⟩
            case measure => simp [intOf]; omega
          · skip
            obtain ⟨cHX5, fHX5, sHX5, nHX5⟩ := HX5.out.all
            try simp only [cbox] at cHX5
            go_wp2_with (at_builtin; refine wpList_append_own _ rfl _ _ 57 rfl W2.heap.size 62 i1 _ 5 40 Try.underlying57 hi0 hz0 hz1 hz2 rfl (by decide) _ _ _ rfl (HOWN5.out.alloc _) ⟨w5.heap.size, 0, none⟩ 1 1 (tcells [⟨(d0, d1), key, col, val⟩]) rfl rfl (newsT w5 ⟨(d0, d1), key, col, val⟩ _ _ rfl) (tcells_one _) ?_ ?_ ?_ ?_; rotate_right; intro v6 w6 hown6 hg6 _; rotate_left; (simp only [maxLen]; omega); (omega); (simp; omega))
            go_roundw
            case rel =>
              refine ⟨i + 1, by omega, by go_num, ?_, (HB5.out.alloc (by omega) _).grown hg6 (by simp; omega) (fun g e => (HOWN5.out.lt g e).1)⟩
              rw [HST.out, HQ.out, if_pos rfl, tcells_snoc]
              simpa using hown6
            case measure => simp [intOf]; omega
        · have hs2 := HB2.out.size
          clear hst
          go_wp2
          go_ret2
          refine ⟨_, ret_vi E2.out.symm, ?_, HBB.out⟩
          have h := own_baseS HOWN.out hs2
          have e := HFIN.out hlt
          rw [← e]
          exact h
end Go.Proofs.Ytogegnikpjcpdaa
/- viewkeep.DotLattice: the plain law, and the walk. -/
namespace Go.Proofs.Ytogegnikpjcpdaa
set_option linter.unusedVariables false
open Go.ChangeShapes Go.WideShapes Go.ChangeAt Go.RowKit

theorem two_okL {a b : Ctx} (h : twoI a b = 0) : okC a ∧ okC b ∧ a.cloud.length ≤ 400 ∧ b.cloud.length ≤ 400 := by
  obtain ⟨h1, h2⟩ := twoI_zero.1 h
  obtain ⟨h3, h4⟩ := (checkI_iff a).1 h1
  obtain ⟨h5, h6⟩ := (checkI_iff b).1 h2
  exact ⟨h3, h5, h4, h6⟩
theorem twoI_comm {a b : Ctx} : twoI a b = 0 ↔ twoI b a = 0 := by rw [twoI_zero, twoI_zero]; exact And.comm
theorem checkI_pos {a : Ctx} (h : checkI a ≠ 0) : checkI a ≠ 0 := h
/-- When a join succeeds. -/
theorem joinE_zero {a b : Ctx} : joinE a b = 0 ↔ twoI a b = 0 ∧ (joinC a b).cloud.length ≤ 400 := by
  unfold joinE
  by_cases h : twoI a b = 0
  · rw [if_neg (by simp [h])]
    by_cases h4 : 400 < (joinC a b).cloud.length
    · rw [if_pos h4]; simp; omega
    · rw [if_neg h4]; simp [h]; omega
  · rw [if_pos h]; simp [h]
theorem joinX_ok {a b : Ctx} (h : joinE a b = 0) : joinX a b = joinC a b ∧ okC a ∧ okC b ∧ okC (joinC a b) ∧ checkI (joinC a b) = 0 ∧ ∀ d, hasB (joinC a b) d = (hasB a d || hasB b d) := by
  obtain ⟨h1, h2⟩ := joinE_zero.1 h
  obtain ⟨ha, hb, -, -⟩ := two_okL h1
  obtain ⟨h3, h4⟩ := join_ok ha hb
  refine ⟨?_, ha, hb, h3, (checkI_iff _).2 ⟨h3, h2⟩, fun d => ?_⟩
  · unfold joinX; rw [if_neg (by simp [h1]), if_neg (by omega)]
  · rw [Bool.eq_iff_iff, h4, Bool.or_eq_true]
theorem joinC_comm {a b : Ctx} (ha : okC a) (hb : okC b) : joinC a b = joinC b a := by
  obtain ⟨h1, h2⟩ := join_ok ha hb
  obtain ⟨h3, h4⟩ := join_ok hb ha
  refine okC_ext h1 h3 fun d => ?_
  rw [Bool.eq_iff_iff, h2, h4]; exact Or.comm
theorem joinE_comm {a b : Ctx} : joinE a b = 0 ↔ joinE b a = 0 := by
  rw [joinE_zero, joinE_zero, twoI_comm]
  constructor <;> rintro ⟨h1, h2⟩
  · obtain ⟨hb, ha, -, -⟩ := two_okL h1
    exact ⟨h1, by rw [joinC_comm hb ha]; exact h2⟩
  · obtain ⟨hb, ha, -, -⟩ := two_okL h1
    exact ⟨h1, by rw [joinC_comm ha hb]; exact h2⟩
theorem checkI_two {a b : Ctx} (ha : checkI a = 0) (hb : checkI b = 0) : twoI a b = 0 := twoI_zero.2 ⟨ha, hb⟩
/-- What the law asks of a join that succeeds. -/
theorem lattice1 {a b : Ctx} (h : joinE a b = 0) : joinX b a = joinX a b ∧ checkI (joinX a b) = 0 ∧ twoI a (joinX a b) = 0 ∧ lessX a (joinX a b) = true ∧ (∀ d, hasB (joinX a b) d = (hasB a d || hasB b d)) ∧ lessX a b = sameB (joinX a b) b := by
  obtain ⟨e, ha, hb, hj, hc, hh⟩ := joinX_ok h
  obtain ⟨h1, h2⟩ := joinE_zero.1 h
  obtain ⟨e', -⟩ := joinX_ok (joinE_comm.1 h)
  obtain ⟨c1, c2⟩ := twoI_zero.1 h1
  have t2 : twoI a (joinC a b) = 0 := checkI_two c1 hc
  rw [e, e']
  refine ⟨joinC_comm hb ha, hc, t2, ?_, hh, ?_⟩
  · unfold lessX
    rw [if_neg (by simp [t2]), less_iff ha hj]
    intro d hd
    rw [hh, hd]; rfl
  · unfold lessX
    rw [if_neg (by simp [h1]), Bool.eq_iff_iff, sameB_iff, less_iff ha hb]
    constructor
    · intro hl
      refine okC_ext hj hb fun d => ?_
      rw [hh, Bool.eq_iff_iff, Bool.or_eq_true]
      exact ⟨fun h => h.elim (hl d) id, .inr⟩
    · intro e3 d hd
      rw [← e3, hh, hd]; rfl
theorem lattice2 {a b c : Ctx} (h : joinE a b = 0) (h1 : joinE (joinX a b) c = 0) (h2 : joinE b c = 0) (h3 : joinE a (joinX b c) = 0) : joinX (joinX a b) c = joinX a (joinX b c) := by
  obtain ⟨e1, ha, hb, hj, -, g1⟩ := joinX_ok h
  obtain ⟨e2, -, hc, hj2, -, g2⟩ := joinX_ok h1
  obtain ⟨e3, -, -, hj3, -, g3⟩ := joinX_ok h2
  obtain ⟨e4, -, -, hj4, -, g4⟩ := joinX_ok h3
  rw [e2, e4]
  refine okC_ext hj2 hj4 fun d => ?_
  rw [g2, g4, e1, e3, g1, g3, Bool.or_assoc]
theorem joinX_le (a b : Ctx) : (joinX a b).cloud.length ≤ 400 := by
  unfold joinX
  split
  · simp
  · split
    · simp
    · omega
theorem make_three : makeC [(0, 1), (0, 2), (1, 3)] = ⟨2, 0, 0, 0, [(1, 3)]⟩ ∧ makeE [(0, 1), (0, 2), (1, 3)] = 0 := by
  have hr : ([(0, 1), (0, 2), (1, 3)] : List (Int × Int)).any (fun d => !rightB d.1 d.2) = false := by decide
  have hr2 : ∀ d ∈ ([(0, 1), (0, 2), (1, 3)] : List (Int × Int)), rightB d.1 d.2 = true := by decide
  constructor
  · unfold makeC
    rw [if_neg (by decide), if_neg (by rw [hr]; simp)]
    obtain ⟨h1, h2⟩ := pack_ok (c0 := 0) (c1 := 0) (c2 := 0) (c3 := 0) (l := [(0, 1), (0, 2), (1, 3)]) (by simp [clkIn]) hr2
    refine okC_ext h1 ⟨by simp [clkIn], ?_, by simp⟩ fun d => ?_
    · intro d hd
      simp only [List.mem_singleton] at hd
      subst hd
      exact ⟨by decide, by decide⟩
    · rw [Bool.eq_iff_iff, h2, hasB_iff, hasB_iff]
      obtain ⟨n, s⟩ := d
      simp only [Ctx.at_, List.mem_cons, Prod.mk.injEq, List.not_mem_nil, or_false]
      constructor
      · rintro (⟨h0, h4, h1, h⟩ | h)
        · split at h <;> omega
        · rcases h with ⟨rfl, rfl⟩ | ⟨rfl, rfl⟩ | ⟨rfl, rfl⟩
          · left; simp
          · left; simp
          · right; exact ⟨rfl, rfl⟩
      · rintro (⟨h0, h4, h1, h⟩ | ⟨rfl, rfl⟩)
        · right
          by_cases e : n = 0
          · rw [if_pos e] at h; omega
          · rw [if_neg e] at h
            split at h <;> (try split at h) <;> omega
        · right; right; right; exact ⟨rfl, rfl⟩
  · unfold makeE
    rw [if_neg (by decide), if_neg (by rw [hr]; simp)]
end Go.Proofs.Ytogegnikpjcpdaa
/- table.dots, the predicates handed to it, table.context; the plain law of a context of some dots. -/
namespace Go.Proofs.Ytogegnikpjcpdaa
set_option linter.unusedVariables false
open Go.ChangeShapes Go.WideShapes Go.ChangeAt Go.RowKit

abbrev celv (x : Cel) : Value := .agg #[.int .i64 x.d.1, .int .i64 x.d.2, .int .i64 x.key, .int .i64 x.col, .int .i64 x.val]
def PredT (g : Nat) (caps : Array Value) (p : Cel → Bool) (l : List Cel) (w : World) : Prop :=
  ∀ w', Below w.heap.size w w' → ∀ x ∈ l, Calls Try.prog g (#[celv x] ++ caps) w' fun e w'' => e = .returned (.bool (p x)) ∧ Below w'.heap.size w' w''

set_option maxHeartbeats 2000000 in
set_option maxRecDepth 100000 in
theorem dots_any (t : Tab) (g : Nat) (caps : Array Value) (p : Cel → Bool) (A : Option Addr) (k : Nat) (B : Option Addr) (m : Nat) (w : World) (rb : Row w w.heap.size B (tcells t.cells)) (lb : t.cells.length ≤ 4398046511104)
    (eg : ∀ args w, (callFunc g args).run Try.prog w = .ok (.enter g args) w) (hp : PredT g caps p t.cells w) :
    Calls Try.prog 78 #[tval t A k B m, .func (.func g) #[] caps] w (DotsPost ((t.cells.filter p).map Cel.d) w) := by
  have RB := hid (fun w1 (hb : Below w.heap.size w w1) => rb.step hb)
  have HP := hid hp
  clear rb hp
  obtain ⟨⟨c0, c1, c2, c3, cl⟩, l⟩ := t
  obtain ⟨i0, hi0, hz0, hz1, hz2⟩ := info_parts info_dot
  simp only [tval] at *
  obtain ⟨V, hV⟩ : ∃ V, V = (l.filter p).map Cel.d := ⟨_, rfl⟩
  rw [← hV]
  have HV := hid hV
  clear hV
  go_enter Try.func78, Try.ntmps78
  go_wp2
  obtain ⟨W2, hW2⟩ : ∃ W2 : World, W2 = w.alloc (.cells #[.int .i64 c0, .int .i64 c1, .int .i64 c2, .int .i64 c3, .slice A cl.length k, .slice B l.length m] 59) := ⟨_, rfl⟩
  rw [← hW2]
  have HB2 := hid (show Below w.heap.size w W2 by rw [hW2]; (repeat' (first | (with_reducible exact Below.refl _ _) | (with_reducible assumption) | (with_reducible refine below_drewN ?_ _) | (with_reducible refine Below.drew ?_) | (with_reducible refine Below.alloc ?_ ?_ _) | (with_reducible refine Below.setCell ?_ ?_ _) | (refine Below.trans ?_ (Below.mono (by assumption) ?_)) | go_size)))
  have hs2 : w.heap.size ≤ W2.heap.size := HB2.out.size
  clear hW2
  go_loopw [5, 11] (fun s5 s11 wr => ∃ i : Nat, i ≤ l.length ∧ s11 = .int .i64 i ∧ wr.ownsRow W2.heap.size 27 2 s5 (((l.take i).filter p).map Cel.d).length (dcells (((l.take i).filter p).map Cel.d)) ∧ Below W2.heap.size W2 wr) (fun _ s11 _ => l.length - (intOf s11).toNat)
  case atStart => exact ⟨0, by omega, rfl, by simpa using World.ownsRow_nil _ _ _ _, Below.refl _ _⟩
  case round =>
    obtain ⟨i, hi, rfl, hown, hbw⟩ := hrel
    have hst : ∀ hj : i < l.length, ((l.take (i + 1)).filter p).map Cel.d = ((l.take i).filter p).map Cel.d ++ (if p l[i] = true then [l[i].d] else []) := by
      intro hj
      rw [List.take_succ_eq_append_getElem hj, List.filter_append, List.map_append, List.filter_cons, List.filter_nil]
      split <;> simp
    have hol : (((l.take i).filter p).map Cel.d).length ≤ 4398046511104 := by
      have := List.length_filter_le p (l.take i)
      rw [List.length_take] at this
      rw [List.length_map]
      omega
    have hfin : ¬ i < l.length → ((l.take i).filter p).map Cel.d = V := fun h => by rw [HV.out, List.take_of_length_le (by omega)]
    obtain ⟨O, hO⟩ : ∃ O, O = ((l.take i).filter p).map Cel.d := ⟨_, rfl⟩
    rw [← hO] at hown hst hol hfin
    clear hO
    obtain ⟨A8, c8, rfl⟩ := own_formS hown
    have hB := Below.step' HB2.out hbw
    have HOWN := hid hown
    have HBW := hid hbw
    have HBB := hid hB
    have HFIN := hid hfin
    clear hown hbw hB hfin
    by_cases hlt : i < l.length
    · obtain ⟨b, off, hA, hb, e0, e1, e2, e3, e4⟩ := (RB.out wr HBB.out).cel hlt
      subst hA
      have HST := hid (hst hlt)
      have hc := fun w1 (hb1 : Below wr.heap.size wr w1) => HP.out w1 (Below.step' HBB.out hb1) l[i] (List.getElem_mem _)
      clear hst
      generalize l[i] = x at *
      obtain ⟨⟨d0, d1⟩, ky, co, vl⟩ := x
      simp only at e0 e1 e2 e3 e4
      simp only [celv] at hc
      have hneb : (b = wr.heap.size) = False := by simp; omega
      have hsw := HBW.out.size
      cases hq : p ⟨(d0, d1), ky, co, vl⟩
      all_goals
        rw [hq] at hc
        have HC := hid hc
        have HQ := hid hq
        clear hc hq
        go_wp2_with fail
        refine (HC.out _ ((Below.refl _ _).alloc (Nat.le_refl _) _)).mono ?_
        rintro e w5 ⟨rfl, hb5⟩
        have hB5 : Below wr.heap.size wr w5 := (by refine Below.step' ?_ hb5; (repeat' (first | (with_reducible exact Below.refl _ _) | (with_reducible assumption) | (with_reducible refine below_drewN ?_ _) | (with_reducible refine Below.drew ?_) | (with_reducible refine Below.alloc ?_ ?_ _) | (with_reducible refine Below.setCell ?_ ?_ _) | (refine Below.trans ?_ (Below.mono (by assumption) ?_)) | go_size)))
        have HOWN5 := hid (own_laterS HOWN.out hB5)
        have HB5 := hid (Below.step' HBW.out hB5)
        have hs5 := (Below.step' HBW.out hB5).size
        have HX5 := hid (Blk.step (Blk.new wr #[.int .i64 d0, .int .i64 d1, .int .i64 ky, .int .i64 co, .int .i64 vl] 62) hb5)
        clear hb5 hB5 e0 e1 e2 e3 e4 hneb hb
      · go_wp2
        go_roundw
        case rel => exact ⟨i + 1, by omega, by go_num, by rw [HST.out, HQ.out, if_neg (by simp), List.append_nil]; exact HOWN5.out, HB5.out⟩
        case measure => simp [intOf]; omega
      · skip
        obtain ⟨cHX5, fHX5, sHX5, nHX5⟩ := HX5.out.all
        try simp only [cbox] at cHX5
        go_wp2_with (at_builtin; refine wpList_append_own _ rfl _ _ 23 rfl W2.heap.size 27 i0 _ 2 16 Try.underlying23 hi0 hz0 hz1 hz2 rfl (by decide) _ _ _ rfl (HOWN5.out.alloc _) ⟨w5.heap.size, 0, none⟩ 1 1 (dcells [(d0, d1)]) rfl rfl (news_new w5 _ _ _ _ rfl) (dcells_one _) ?_ ?_ ?_ ?_; rotate_right; intro v6 w6 hown6 hg6 _; rotate_left; (simp only [maxLen]; omega); (omega); (simp; omega))
        go_roundw
        case rel =>
          refine ⟨i + 1, by omega, by go_num, ?_, (HB5.out.alloc (by omega) _).grown hg6 (by simp; omega) (fun g e => (HOWN5.out.lt g e).1)⟩
          rw [HST.out, HQ.out, if_pos rfl]
          simpa [dcells] using hown6
        case measure => simp [intOf]; omega
    · have hfin := HFIN.out hlt
      rw [hfin] at HOWN ⊢
      clear hst
      go_wp2
      go_ret
      exact ⟨_, rfl, own_baseS HOWN.out hs2, HBB.out⟩

def atK (key : Int) (x : Cel) : Bool := x.key == key
set_option maxRecDepth 100000 in
theorem put1_any (x : Cel) (key col : Int) (X Y : Nat) (w : World) (hX : Blk w X #[.int .i64 key] 3) (hY : Blk w Y #[.int .i64 col] 3) :
    Calls Try.prog 79 #[celv x, .pointer (some ⟨X, 0, none⟩), .pointer (some ⟨Y, 0, none⟩)] w fun e w' => e = .returned (.bool (atKC key col x)) ∧ Below w.heap.size w w' := by
  obtain ⟨cx, fx, sx, nx⟩ := hX.all
  obtain ⟨cy, fy, sy, ny⟩ := hY.all
  clear hX hY
  obtain ⟨⟨d0, d1⟩, ky, co, vl⟩ := x
  simp only [celv, atKC]
  cases q1 : (ky == key)
  · go_enter Try.func79, Try.ntmps79
    go_wp2
    go_ret
    exact ⟨ret_bool (by simp), by (repeat' (first | (with_reducible exact Below.refl _ _) | (with_reducible assumption) | (with_reducible refine below_drewN ?_ _) | (with_reducible refine Below.drew ?_) | (with_reducible refine Below.alloc ?_ ?_ _) | (with_reducible refine Below.setCell ?_ ?_ _) | (refine Below.trans ?_ (Below.mono (by assumption) ?_)) | go_size))⟩
  · cases q2 : (co == col)
    all_goals
      go_enter Try.func79, Try.ntmps79
      go_wp2
      go_ret
      exact ⟨ret_bool (by simp), by (repeat' (first | (with_reducible exact Below.refl _ _) | (with_reducible assumption) | (with_reducible refine below_drewN ?_ _) | (with_reducible refine Below.drew ?_) | (with_reducible refine Below.alloc ?_ ?_ _) | (with_reducible refine Below.setCell ?_ ?_ _) | (refine Below.trans ?_ (Below.mono (by assumption) ?_)) | go_size))⟩
set_option maxRecDepth 100000 in
theorem del1_any (x : Cel) (key : Int) (X : Nat) (w : World) (hX : Blk w X #[.int .i64 key] 3) :
    Calls Try.prog 81 #[celv x, .pointer (some ⟨X, 0, none⟩)] w fun e w' => e = .returned (.bool (atK key x)) ∧ Below w.heap.size w w' := by
  obtain ⟨cx, fx, sx, nx⟩ := hX.all
  clear hX
  obtain ⟨⟨d0, d1⟩, ky, co, vl⟩ := x
  simp only [celv, atK]
  go_enter Try.func81, Try.ntmps81
  go_wp2
  go_ret
  exact ⟨rfl, by (repeat' (first | (with_reducible exact Below.refl _ _) | (with_reducible assumption) | (with_reducible refine below_drewN ?_ _) | (with_reducible refine Below.drew ?_) | (with_reducible refine Below.alloc ?_ ?_ _) | (with_reducible refine Below.setCell ?_ ?_ _) | (refine Below.trans ?_ (Below.mono (by assumption) ?_)) | go_size))⟩
theorem enters_put1 : ∀ args w, (callFunc 79 args).run Try.prog w = .ok (.enter 79 args) w := enters_of Try.func79 (by kernel_rfl) rfl
theorem enters_del1 : ∀ args w, (callFunc 81 args).run Try.prog w = .ok (.enter 81 args) w := enters_of Try.func81 (by kernel_rfl) rfl

/-! A context of some dots, of which one may be more than a list may have. -/
def ctxX (l : List (Int × Int)) : Ctx := joinX (makeC (l.take 400)) (makeC (l.drop 400))
def ctxE (l : List (Int × Int)) : Int := joinE (makeC (l.take 400)) (makeC (l.drop 400))
theorem make_pack {l : List (Int × Int)} (h : l.length ≤ 400) (hr : ∀ d ∈ l, rightB d.1 d.2 = true) : makeC l = packL 0 0 0 0 l := by
  unfold makeC
  rw [if_neg (by omega), if_neg]
  rw [Bool.not_eq_true, List.any_eq_false]
  intro d hd
  simp [hr d hd]
theorem pack_zero {l : List (Int × Int)} (hr : ∀ d ∈ l, rightB d.1 d.2 = true) : okC (packL 0 0 0 0 l) ∧ ∀ d, hasB (packL 0 0 0 0 l) d = true ↔ d ∈ l := by
  obtain ⟨h1, h2⟩ := pack_ok (c0 := 0) (c1 := 0) (c2 := 0) (c3 := 0) (l := l) (by simp [clkIn]) hr
  refine ⟨h1, fun d => ?_⟩
  rw [h2]
  constructor
  · rintro (h | h)
    · rcases hasB_iff.1 h with ⟨_, _, h3, h4⟩ | h
      · simp only [Ctx.at_] at h4
        split at h4 <;> (try split at h4) <;> (try split at h4) <;> omega
      · simp at h
    · exact h
  · exact .inr
theorem pack_same {l m : List (Int × Int)} (hr : ∀ d ∈ l, rightB d.1 d.2 = true) (h : ∀ d, d ∈ l ↔ d ∈ m) : packL 0 0 0 0 l = packL 0 0 0 0 m := by
  obtain ⟨h1, h2⟩ := pack_zero hr
  obtain ⟨h3, h4⟩ := pack_zero (l := m) (fun d hd => hr d ((h d).2 hd))
  exact okC_ext h1 h3 fun d => by rw [Bool.eq_iff_iff, h2, h4, h]
theorem ctx_pack {l : List (Int × Int)} (hl : l.length ≤ 800) (hr : ∀ d ∈ l, rightB d.1 d.2 = true) :
    ctxX l = (if 400 < (packL 0 0 0 0 l).cloud.length then ⟨0, 0, 0, 0, []⟩ else packL 0 0 0 0 l) ∧ ctxE l = (if 400 < (packL 0 0 0 0 l).cloud.length then 2 else 0) := by
  have ht : (l.take 400).length ≤ 400 := by rw [List.length_take]; omega
  have hd : (l.drop 400).length ≤ 400 := by rw [List.length_drop]; omega
  have hrt : ∀ d ∈ l.take 400, rightB d.1 d.2 = true := fun d h => hr d (List.mem_of_mem_take h)
  have hrd : ∀ d ∈ l.drop 400, rightB d.1 d.2 = true := fun d h => hr d (List.mem_of_mem_drop h)
  obtain ⟨a1, a2⟩ := pack_zero hrt
  obtain ⟨b1, b2⟩ := pack_zero hrd
  have ca : checkI (packL 0 0 0 0 (l.take 400)) = 0 := (checkI_iff _).2 ⟨a1, Nat.le_trans pack_length ht⟩
  have cb : checkI (packL 0 0 0 0 (l.drop 400)) = 0 := (checkI_iff _).2 ⟨b1, Nat.le_trans pack_length hd⟩
  have h2 := checkI_two ca cb
  obtain ⟨j1, j2⟩ := join_ok a1 b1
  obtain ⟨p1, p2⟩ := pack_zero hr
  have e : joinC (packL 0 0 0 0 (l.take 400)) (packL 0 0 0 0 (l.drop 400)) = packL 0 0 0 0 l := okC_ext j1 p1 fun d => by
    rw [Bool.eq_iff_iff, j2, p2, a2, b2, ← List.mem_append, List.take_append_drop]
  unfold ctxX ctxE joinX joinE
  rw [make_pack ht hrt, make_pack hd hrd, e]
  simp only [h2, ne_eq, not_true_eq_false, if_false]
  exact ⟨trivial, trivial⟩
end Go.Proofs.Ytogegnikpjcpdaa
