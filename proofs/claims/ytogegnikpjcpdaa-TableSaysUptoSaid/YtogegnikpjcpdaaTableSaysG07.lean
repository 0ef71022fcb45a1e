/- RMiss, Minus, App -/
import Derived.Test.YtogegnikpjcpdaaTableSaysG05
import Derived.Test.YtogegnikpjcpdaaTableSaysG06
import Derived.Deep.CutBlock
import Derived.Deep.CutRange
import Derived.Test.YtogegnikpjcpdaaTableSaysG02
import Derived.Maps.AppendAt
import Derived.Deep.RegionHeld3
/- viewref.Missing. -/
namespace Go.Proofs.Ytogegnikpjcpdaa
set_option linter.unusedVariables false
open Go.ChangeShapes Go.WideShapes Go.ChangeAt Go.RowKit

def DotsPost (l : List (Int × Int)) (w : World) (e : Ending) (w' : World) : Prop :=
  ∃ v, e = .returned v ∧ w'.ownsRow w.heap.size 27 2 v l.length (dcells l) ∧ Below w.heap.size w w'

def missUp (a b : Ctx) : Nat → List (Int × Int)
  | 0 => []
  | i + 1 => missStep a b (missUp a b i) i
theorem missUp_R (a b : Ctx) : missUp a b 4 = missR a b := rfl
theorem missUp_le (a b : Ctx) (h : a.cloud.length ≤ 400) : ∀ i, (missUp a b i).length ≤ 401 + 400 * i
  | 0 => by simp [missUp]
  | i + 1 => by
    have ih := missUp_le a b h i
    have h1 : (cldMiss a b i).length ≤ a.cloud.length := List.length_filter_le _ _
    simp only [missUp, missStep, List.length_append, List.length_take]
    omega

theorem cap_snoc {α : Type} (O C : List α) (d : α) (h : (O ++ C.take (401 - O.length)).length ≤ 400) : O ++ (C ++ [d]).take (401 - O.length) = (O ++ C.take (401 - O.length)) ++ [d] := by
  simp only [List.length_append, List.length_take] at h
  rw [List.take_of_length_le (by simp; omega), List.take_of_length_le (by omega), List.append_assoc]
theorem cap_full {α : Type} (O C D : List α) (h : 400 < (O ++ C.take (401 - O.length)).length) : O ++ (C ++ D).take (401 - O.length) = O ++ C.take (401 - O.length) := by
  simp only [List.length_append, List.length_take] at h
  rw [List.take_append_of_le_length (by omega)]
theorem clkDots_prefix (a b : Ctx) (n : Int) (j : Nat) : ∀ K, j ≤ K → ∃ D, clkDots a b n K = clkDots a b n j ++ D
  | 0, h => ⟨[], by rw [show j = 0 by omega]; simp⟩
  | K + 1, h => by
    by_cases e : j = K + 1
    · exact ⟨[], by rw [e]; simp⟩
    · obtain ⟨D, hD⟩ := clkDots_prefix a b n j K (by omega)
      exact ⟨D ++ _, by rw [clkDots_succ, hD, List.append_assoc]⟩
theorem grown_below {B : Nat} {w0 w1 w2 : World} {n : Nat} {T : TypeId} {v : Value} {xs : List Value} (h : Below B w0 w1) (hg : w1.grownBy w2 v.ownBlock) (ho : w1.ownsRow B T 2 v n xs) (hB : B ≤ w1.heap.size) : Below B w0 w2 :=
  h.grown hg hB (fun g e => (ho.lt g e).1)

set_option maxHeartbeats 1000000 in
set_option maxRecDepth 100000 in
theorem missing_any (a b : Ctx) (A B : Option Addr) (k m : Nat) (w : World) (ra : Row w w.heap.size A (dcells a.cloud)) (la : a.cloud.length ≤ 400)
    (rb : Row w w.heap.size B (dcells b.cloud)) (lb : b.cloud.length ≤ 400) (ca : clkIn a) (cb : clkIn b) :
    Calls Try.prog 30 #[cval a A k, cval b B m] w (DotsPost (missR a b) w) := by
  have HH := hid (fun w1 (hb : Below w.heap.size w w1) d => Rhas_any b d B m w1 (rb.step hb) (by omega))
  have RA := hid ra
  have CA := hid ca
  have CB := hid cb
  have UR := hid (missUp_R a b)
  have UL := hid (missUp_le a b la)
  have CELA := hid (fun n h0 h4 v => at_cell a n h0 h4 v)
  have CELB := hid (fun n h0 h4 v => at_cell b n h0 h4 v)
  clear ra rb ca cb
  obtain ⟨i0, hi0, hz0, hz1, hz2⟩ := info_parts info_dot
  go_enter Try.func30, Try.ntmps30
  simp only [cval]
  go_wp2
  obtain ⟨W0, hW0⟩ : ∃ W0 : World, W0 = (w.alloc (.cells (cbox a A k) 25)).alloc (.cells (cbox b B m) 25) := ⟨_, rfl⟩
  simp only [cbox] at hW0
  rw [← hW0]
  have hB0 : Below w.heap.size w W0 := by rw [hW0]; (repeat' (first | (with_reducible exact Below.refl _ _) | (with_reducible assumption) | (with_reducible refine below_drewN ?_ _) | (with_reducible refine Below.drew ?_) | (with_reducible refine Below.alloc ?_ ?_ _) | (with_reducible refine Below.setCell ?_ ?_ _) | (refine Below.trans ?_ (Below.mono (by assumption) ?_)) | go_size))
  have hXa : Blk W0 w.heap.size (cbox a A k) 25 := by rw [hW0]; exact (Blk.new w _ _).alloc _
  have hXb : Blk W0 (w.heap.size + 1) (cbox b B m) 25 := by rw [hW0]; exact Blk.new' _ _ _ (by simp)
  clear hW0
  have HB0 := hid hB0
  have HXA := hid hXa
  have HXB := hid hXb
  clear hB0 hXa hXb
  go_loopw [5, 6] (fun s5 s6 wr => ∃ i : Nat, i ≤ 4 ∧ s6 = .int .i64 i ∧ wr.ownsRow W0.heap.size 27 2 s5 (missUp a b i).length (dcells (missUp a b i)) ∧ Below W0.heap.size W0 wr) (fun _ s6 _ => 4 - (intOf s6).toNat)
  case atStart => exact ⟨0, by omega, rfl, World.ownsRow_nil _ _ _ _, Below.refl _ _⟩
  case round =>
    obtain ⟨i, hi, rfl, hown, hbw⟩ := hrel
    by_cases hlt : i < 4
    · have xa := (HXA.out.step hbw).cells.1
      have xb := (HXB.out.step hbw).cells.1
      have hea := CELA.out i (by omega) (by omega) (.slice A a.cloud.length k)
      have ea : wr.cell? ⟨w.heap.size, i, none⟩ = some (.int .i64 (a.at_ i)) := by rw [xa]; exact hea
      have eb : wr.cell? ⟨w.heap.size + 1, i, none⟩ = some (.int .i64 (b.at_ i)) := by rw [xb]; exact CELB.out i (by omega) (by omega) _
      have ia := at_in CA.out i
      have ib := at_in CB.out i
      obtain ⟨ia0, ia1⟩ := ia
      obtain ⟨ib0, ib1⟩ := ib
      have HOWN := hid hown
      have HBW := hid hbw
      clear xa xb hown hbw
      go_wp2
      have hul := UL.out i
      obtain ⟨O, hO⟩ : ∃ O, O = missUp a b i := ⟨_, rfl⟩
      obtain ⟨K, hK⟩ : ∃ K, K = (a.at_ i - b.at_ i).toNat := ⟨_, rfl⟩
      obtain ⟨lo, hlo⟩ : ∃ lo, lo = min (a.at_ i) (b.at_ i) + 1 := ⟨_, rfl⟩
      have hS : missUp a b (i + 1) = O ++ (clkDots a b i K).take (401 - O.length) ++ cldMiss a b i := by rw [hO, hK]; rfl
      have hsuc : ∀ j, j < K → clkDots a b i (j + 1) = clkDots a b i j ++ (if hasB b ((i : Int), lo + (j : Int)) = true then [] else [((i : Int), lo + (j : Int))]) := by
        intro j hj
        rw [clkDots_succ, show b.at_ i + 1 = lo by omega]
      rw [← hO] at HOWN hul
      have zw : IntKind.i64.wrap (min (a.at_ i) (b.at_ i) + 1) = lo := (IntWalk.i64_in _ (by omega)).trans hlo.symm
      have hk : lo + (K : Int) = a.at_ i + 1 := by omega
      have hl0 : 1 ≤ lo := by omega
      have HS := hid hS
      have HSUC := hid hsuc
      clear hS hO hsuc hlo hK
      generalize a.at_ i = ai at *
      generalize b.at_ i = bi at *
      obtain ⟨wo, rfl⟩ : ∃ wo : World, wo = wr := ⟨_, rfl⟩
      refine wp_region_quiet_lit (by kernel_rfl) (by kernel_rfl) ?_
      repeat (any_goals ((with_reducible refine wpQuiet_step (fun K hK => ?_)); go_simp; first | (with_reducible refine hK _ ?_; clear hK K) | ((with_reducible apply Exists.intro); (with_reducible refine ⟨fun _ => ?_, hK _ ?_⟩); (fail); clear hK K) | ((with_reducible refine (if_neg ?_).mpr (hK _ ?_)); (decide); clear hK K) | (split <;> (with_reducible refine hK _ ?_; clear hK K))))
      all_goals ((with_reducible refine wpQuiet_nil ?_); intro _ hw'; obtain ⟨nq, hw''⟩ := hw'; subst hw'')
      clear zw ea eb
      have HK := hid hk
      have hk1 : lo + (K : Int) ≤ 1099511627777 := by omega
      clear hk
      go_upto_block 2 with fail
      go_cut [5] from 25 to 48 (fun s5 wx => wx.ownsRow W0.heap.size 27 2 s5 (O ++ (clkDots a b i K).take (401 - O.length)).length (dcells (O ++ (clkDots a b i K).take (401 - O.length))) ∧ Below W0.heap.size W0 wx)
      case first =>
        go_wp2_with fail
        go_loopw [5, 7] (fun s5 s7 wr => ∃ j : Nat, j ≤ K ∧ s7 = .int .i64 (lo + j) ∧ wr.ownsRow W0.heap.size 27 2 s5 (O ++ (clkDots a b i j).take (401 - O.length)).length (dcells (O ++ (clkDots a b i j).take (401 - O.length))) ∧ Below W0.heap.size W0 wr) (fun _ s7 _ => (lo + K - intOf s7).toNat)
        case atStart => exact ⟨0, by omega, by simp, by simpa [clkDots] using own_later HOWN.out (below_drewN (Below.refl _ _) nq), below_drewN HBW.out nq⟩
        case round =>
          obtain ⟨j, hj, rfl, hown2, hb2⟩ := hrel
          have xa := (HXA.out.step hb2).cells.1
          have ea : wr.cell? ⟨w.heap.size, i, none⟩ = some (.int .i64 ai) := by rw [xa]; exact hea
          have hB : Below w.heap.size w wr := Below.step' HB0.out hb2
          have hl2 : (O ++ (clkDots a b i j).take (401 - O.length)).length ≤ 401 ∨ (O ++ (clkDots a b i j).take (401 - O.length)).length ≤ O.length := by simp only [List.length_append, List.length_take]; omega
          obtain ⟨A2, c2, rfl⟩ := own_form hown2
          obtain ⟨o2, ho2⟩ : ∃ o2, o2 = O ++ (clkDots a b i j).take (401 - O.length) := ⟨_, rfl⟩
          rw [← ho2] at hown2 hl2 ⊢
          have HO2 := hid ho2
          clear ho2 xa
          by_cases hjK : j < K
          · by_cases h4 : o2.length ≤ 400
            · have t1 : lo + (j : Int) ≤ ai := by have := HK.out; omega
              have t2 : (o2.length : Int) ≤ 400 := by omega
              have xb := (HXB.out.step hb2).cells.1
              have sb := (HXB.out.step hb2).lt
              have nb : (w.heap.size + 1 = wr.heap.size) = False := by simp; omega
              have HOWN2 := hid hown2
              have HB2 := hid hb2
              have HBB := hid hB
              clear hown2 hb2 hB hul hl2
              cases hq : hasB b ((i : Int), lo + (j : Int))
              · have HQ := hid hq
                go_wp2_with fail
                refine (HH.out _ (HBB.out.alloc (by omega) _) ((i : Int), lo + (j : Int))).mono ?_
                rw [hq]
                rintro e w5 ⟨rfl, hb5⟩
                have hB5 : Below wr.heap.size wr w5 := (by refine Below.step' ?_ hb5; (repeat' (first | (with_reducible exact Below.refl _ _) | (with_reducible assumption) | (with_reducible refine below_drewN ?_ _) | (with_reducible refine Below.drew ?_) | (with_reducible refine Below.alloc ?_ ?_ _) | (with_reducible refine Below.setCell ?_ ?_ _) | (refine Below.trans ?_ (Below.mono (by assumption) ?_)) | go_size)))
                have hx5 : Blk w5 wr.heap.size #[.int .i64 i, .int .i64 (lo + j)] 27 := (Blk.new wr _ _).step hb5
                have c5 := hx5.cells.1
                have HOWN5 := hid (own_later HOWN2.out hB5)
                have HB5 := hid (Below.step' HB2.out hB5)
                have hs5 := hB5.size
                have hs0 := (Below.step' HB2.out hB5).size
                clear xb hb5 hB5 hx5 hq
                go_wp2_with (at_builtin; refine wpList_append_own _ rfl _ _ 23 rfl W0.heap.size 27 i0 _ 2 16 Try.underlying23 hi0 hz0 hz1 hz2 rfl (by decide) _ _ _ rfl (HOWN5.out.alloc _) ⟨w5.heap.size, 0, none⟩ 1 1 (dcells [((i : Int), lo + (j : Int))]) rfl rfl (news_new w5 _ _ _ _ rfl) (dcells_one _) ?_ ?_ ?_ ?_; rotate_right; intro v6 w6 hown6 hg6 _; rotate_left; (simp only [maxLen]; omega); (omega); (simp; omega))
                go_roundw
                case rel =>
                  refine ⟨j + 1, by omega, by go_num, ?_, grown_below (HB5.out.alloc (by omega) _) hg6 (HOWN5.out.alloc _) (by simp; omega)⟩
                  rw [HSUC.out j hjK, HQ.out, if_neg (by simp), cap_snoc _ _ _ (by rw [← HO2.out]; exact h4), ← HO2.out]
                  simpa [dcells] using hown6
                case measure => simp [intOf]; omega
              · have HQ := hid hq
                go_wp2_with fail
                refine (HH.out _ (HBB.out.alloc (by omega) _) ((i : Int), lo + (j : Int))).mono ?_
                rw [hq]
                rintro e w5 ⟨rfl, hb5⟩
                have hB5 : Below wr.heap.size wr w5 := (by refine Below.step' ?_ hb5; (repeat' (first | (with_reducible exact Below.refl _ _) | (with_reducible assumption) | (with_reducible refine below_drewN ?_ _) | (with_reducible refine Below.drew ?_) | (with_reducible refine Below.alloc ?_ ?_ _) | (with_reducible refine Below.setCell ?_ ?_ _) | (refine Below.trans ?_ (Below.mono (by assumption) ?_)) | go_size)))
                have HOWN5 := hid (own_later HOWN2.out hB5)
                have HB5 := hid (Below.step' HB2.out hB5)
                clear xb hb5 hB5 hq
                go_wp2
                go_roundw
                case rel =>
                  refine ⟨j + 1, by omega, by go_num, ?_, HB5.out⟩
                  rw [HSUC.out j hjK, HQ.out, if_pos rfl, List.append_nil, ← HO2.out]
                  exact HOWN5.out
                case measure => simp [intOf]; omega
            · have t1 : lo + (j : Int) ≤ ai := by have := HK.out; omega
              have t2 : (400 : Int) < (o2.length : Int) := by omega
              have HOWN2 := hid hown2
              have HB2 := hid hb2
              clear hown2 hb2 hB hul hl2
              go_wp2
              go_meet
              case rel =>
                obtain ⟨D, hD⟩ := clkDots_prefix a b i j K hj
                rw [hD, cap_full _ _ _ (by rw [← HO2.out]; omega), ← HO2.out]
                exact ⟨HOWN2.out, HB2.out⟩
          · have e : j = K := by omega
            have t1 : ai < lo + (j : Int) := by have := HK.out; omega
            have HE := hid e
            have HOWN2 := hid hown2
            have HB2 := hid hb2
            clear hown2 hb2 hB hul hl2 e
            go_wp2
            go_meet
            case rel =>
              rw [← HE.out, ← HO2.out]
              exact ⟨HOWN2.out, HB2.out⟩
      case rest =>
        obtain ⟨hown3, hb3⟩ := hcut
        obtain ⟨wx, rfl⟩ : ∃ wx : World, wx = wc := ⟨_, rfl⟩
        obtain ⟨A3, c3, rfl⟩ := own_form hown3
        have hl3 : (O ++ (clkDots a b i K).take (401 - O.length)).length ≤ 2001 := by simp only [List.length_append, List.length_take]; omega
        generalize O ++ (clkDots a b i K).take (401 - O.length) = O3 at *
        have HOWN3 := hid hown3
        have HB3 := hid hb3
        clear hown3 hb3 hul HOWN HBW HK HSUC hea
        go_wp2
        go_loopw [5, 9] (fun s5 s9 wr => ∃ j : Nat, j ≤ a.cloud.length ∧ s9 = .int .i64 j ∧ wr.ownsRow W0.heap.size 27 2 s5 (O3 ++ (a.cloud.take j).filter (fun d => decide (d.1 = (i : Int)) && !hasB b d)).length (dcells (O3 ++ (a.cloud.take j).filter (fun d => decide (d.1 = (i : Int)) && !hasB b d))) ∧ Below W0.heap.size W0 wr) (fun _ s9 _ => a.cloud.length - (intOf s9).toNat)
        case atStart => exact ⟨0, by omega, rfl, by simpa using HOWN3.out, HB3.out⟩
        case round =>
          obtain ⟨j, hj, rfl, hown4, hb4⟩ := hrel
          have hB : Below w.heap.size w wr := Below.step' HB0.out hb4
          have xa := (HXA.out.step hb4).cells.1
          have e4 : wr.cell? ⟨w.heap.size, 4, none⟩ = some (.slice A a.cloud.length k) := by rw [xa]; rfl
          have hl4 : (O3 ++ (a.cloud.take j).filter (fun d => decide (d.1 = (i : Int)) && !hasB b d)).length ≤ 2401 := by
            have := List.length_filter_le (fun d : Int × Int => decide (d.1 = (i : Int)) && !hasB b d) (a.cloud.take j)
            simp only [List.length_append, List.length_take] at *
            omega
          have hst : ∀ hj : j < a.cloud.length, O3 ++ (a.cloud.take (j + 1)).filter (fun d => decide (d.1 = (i : Int)) && !hasB b d) = (O3 ++ (a.cloud.take j).filter (fun d => decide (d.1 = (i : Int)) && !hasB b d)) ++ (if (decide ((a.cloud[j]).1 = (i : Int)) && !hasB b a.cloud[j]) = true then [a.cloud[j]] else []) := by
            intro hj
            rw [List.take_succ_eq_append_getElem hj, List.filter_append, List.append_assoc]
            congr 2
            rw [List.filter_cons, List.filter_nil]
          obtain ⟨o4, ho4⟩ : ∃ o4, o4 = O3 ++ (a.cloud.take j).filter (fun d => decide (d.1 = (i : Int)) && !hasB b d) := ⟨_, rfl⟩
          rw [← ho4] at hown4 hl4 hst
          obtain ⟨A4, c4, rfl⟩ := own_form hown4
          have HO4 := hid ho4
          clear ho4 xa
          by_cases hjl : j < a.cloud.length
          · have hst2 := hst hjl
            have HST := hid hst2
            clear hst hst2
            obtain ⟨b', off, hA, hb', h0, h1⟩ := (RA.out.step hB).dot hjl
            rw [hA] at e4
            clear hA
            have xb := (HXB.out.step hb4).cells.1
            have sb := (HXB.out.step hb4).lt
            have nb : (w.heap.size + 1 = wr.heap.size) = False := by simp; omega
            have HOWN4 := hid hown4
            have HB4 := hid hb4
            have HBB := hid hB
            have hs0 := hb4.size
            clear hown4 hb4 hB
            generalize a.cloud[j] = d at *
            obtain ⟨d0, d1⟩ := d
            simp only at h0 h1
            by_cases hn : d0 = (i : Int)
            · have tq : ((d0 : Int) == (i : Int)) = true := by simp [hn]
              have HN := hid hn
              clear hn
              cases hq : hasB b (d0, d1)
              · have HQ := hid hq
                go_wp2_with fail
                refine (HH.out _ (HBB.out.alloc (by omega) _) (d0, d1)).mono ?_
                rw [hq]
                rintro e w5 ⟨rfl, hb5⟩
                have hB5 : Below wr.heap.size wr w5 := (by refine Below.step' ?_ hb5; (repeat' (first | (with_reducible exact Below.refl _ _) | (with_reducible assumption) | (with_reducible refine below_drewN ?_ _) | (with_reducible refine Below.drew ?_) | (with_reducible refine Below.alloc ?_ ?_ _) | (with_reducible refine Below.setCell ?_ ?_ _) | (refine Below.trans ?_ (Below.mono (by assumption) ?_)) | go_size)))
                have hx5 : Blk w5 wr.heap.size #[.int .i64 d0, .int .i64 d1] 27 := (Blk.new wr _ _).step hb5
                have c5 := hx5.cells.1
                have HOWN5 := hid (own_later HOWN4.out hB5)
                have HB5 := hid (Below.step' HB4.out hB5)
                have hs5 := hB5.size
                clear xb hb5 hB5 hx5 hq h0 h1 e4 tq
                go_wp2_with (at_builtin; refine wpList_append_own _ rfl _ _ 23 rfl W0.heap.size 27 i0 _ 2 16 Try.underlying23 hi0 hz0 hz1 hz2 rfl (by decide) _ _ _ rfl (HOWN5.out.alloc _) ⟨w5.heap.size, 0, none⟩ 1 1 (dcells [(d0, d1)]) rfl rfl (news_new w5 _ _ _ _ rfl) (dcells_one _) ?_ ?_ ?_ ?_; rotate_right; intro v6 w6 hown6 hg6 _; rotate_left; (simp only [maxLen]; omega); (omega); (simp; omega))
                go_roundw
                case rel =>
                  refine ⟨j + 1, by omega, by go_num, ?_, grown_below (HB5.out.alloc (by omega) _) hg6 (HOWN5.out.alloc _) (by simp; omega)⟩
                  rw [HST.out, HQ.out, if_pos (by simp [HN.out])]
                  simpa [dcells] using hown6
                case measure => simp [intOf]; omega
              · have HQ := hid hq
                go_wp2_with fail
                refine (HH.out _ (HBB.out.alloc (by omega) _) (d0, d1)).mono ?_
                rw [hq]
                rintro e w5 ⟨rfl, hb5⟩
                have hB5 : Below wr.heap.size wr w5 := (by refine Below.step' ?_ hb5; (repeat' (first | (with_reducible exact Below.refl _ _) | (with_reducible assumption) | (with_reducible refine below_drewN ?_ _) | (with_reducible refine Below.drew ?_) | (with_reducible refine Below.alloc ?_ ?_ _) | (with_reducible refine Below.setCell ?_ ?_ _) | (refine Below.trans ?_ (Below.mono (by assumption) ?_)) | go_size)))
                have HOWN5 := hid (own_later HOWN4.out hB5)
                have HB5 := hid (Below.step' HB4.out hB5)
                clear xb hb5 hB5 hq h0 h1 e4 tq
                go_wp2
                go_roundw
                case rel =>
                  refine ⟨j + 1, by omega, by go_num, ?_, HB5.out⟩
                  rw [HST.out, HQ.out, if_neg (by simp), List.append_nil]
                  exact HOWN5.out
                case measure => simp [intOf]; omega
            · have tq : ((d0 : Int) == (i : Int)) = false := by simp [hn]
              have HN := hid hn
              clear hn
              go_wp2
              go_roundw
              case rel =>
                have hB5 : Below wr.heap.size wr _ := (Below.refl wr.heap.size wr).alloc (Nat.le_refl _) (.cells #[.int .i64 d0, .int .i64 d1] 27)
                refine ⟨j + 1, by omega, by go_num, ?_, Below.step' HB4.out hB5⟩
                rw [HST.out, if_neg (by simp [HN.out]), List.append_nil]
                exact own_later HOWN4.out hB5
              case measure => simp [intOf]; omega
          · have HOWN4 := hid hown4
            have HB4 := hid hb4
            have HJ := hid (show (a.cloud.take j) = a.cloud from List.take_of_length_le (by omega))
            clear hown4 hb4 hB hst
            go_wp2
            go_roundw
            case rel =>
              refine ⟨i + 1, by omega, by go_num, ?_, HB4.out⟩
              have e := HO4.out
              rw [HJ.out] at e
              rw [HS.out, show O3 ++ cldMiss a b i = o4 from e.symm]
              exact HOWN4.out
            case measure => simp [intOf]; omega
    · have e : i = 4 := by omega
      have HE := hid e
      have HOWN := hid hown
      have HBW := hid hbw
      clear hown hbw e
      go_wp2
      go_ret
      refine ⟨_, rfl, ?_, Below.step' HB0.out HBW.out⟩
      have := HOWN.out
      rw [HE.out, UR.out] at this
      exact own_base this HB0.out.size
end Go.Proofs.Ytogegnikpjcpdaa
/- dot.Minus. -/
namespace Go.Proofs.Ytogegnikpjcpdaa
set_option linter.unusedVariables false
open Go.ChangeShapes Go.WideShapes Go.ChangeAt Go.RowKit

def DotsErr (l : List (Int × Int)) (x : Int) (w : World) (e : Ending) (w' : World) : Prop :=
  ∃ v, e = .returned (.tuple #[v, .int .i64 x]) ∧ w'.ownsRow w.heap.size 27 2 v l.length (dcells l) ∧ Below w.heap.size w w'

theorem ret_vi {v : Value} {x y : Int} (h : x = y) : Ending.returned (.tuple #[v, .int .i64 x]) = .returned (.tuple #[v, .int .i64 y]) := by rw [h]

def minusX (a b : Ctx) : List (Int × Int) := if twoI a b ≠ 0 then [] else if 400 < (clkAll a b ++ cldAll a b).length then [] else (clkAll a b ++ cldAll a b).mergeSort dotLe
def minusE (a b : Ctx) : Int := if twoI a b ≠ 0 then twoI a b else if 400 < (clkAll a b ++ cldAll a b).length then 2 else 0

def clkUp (a b : Ctx) : Nat → List (Int × Int)
  | 0 => []
  | i + 1 => clkUp a b i ++ clkMiss a b i
theorem clkUp_all (a b : Ctx) : clkUp a b 4 = clkAll a b := rfl
theorem clkUp_le (a b : Ctx) {i j : Nat} (h : i ≤ j) : (clkUp a b i).length ≤ (clkUp a b j).length := by
  induction j with
  | zero => rw [show i = 0 by omega]; exact Nat.le_refl _
  | succ j ih =>
    by_cases e : i = j + 1
    · rw [e]; exact Nat.le_refl _
    · have := ih (by omega)
      simp only [clkUp, List.length_append]
      omega

theorem clk_at (c : Ctx) (i : Nat) (h : i < 4) (w : World) : (Instr.index 22 (clkv c.c0 c.c1 c.c2 c.c3) (.int .i64 (i : Int))).run Try.prog w = .ok (.int .i64 (c.at_ i)) w := by
  rcases (by omega : i = 0 ∨ i = 1 ∨ i = 2 ∨ i = 3) with e | e | e | e <;> subst e
  · exact clk0 _ _ _ _ w
  · exact clk1 _ _ _ _ w
  · exact clk2 _ _ _ _ w
  · exact clk3 _ _ _ _ w

set_option maxHeartbeats 1000000 in
set_option maxRecDepth 100000 in
theorem minus_bad (a b : Ctx) (A B : Option Addr) (k m : Nat) (w : World) (ra : Row w w.heap.size A (dcells a.cloud)) (la : a.cloud.length ≤ 9223372036854775807)
    (rb : Row w w.heap.size B (dcells b.cloud)) (lb : b.cloud.length ≤ 9223372036854775807) (h0 : twoI a b ≠ 0) :
    Calls Try.prog 33 #[cval a A k, cval b B m] w (DotsErr [] (twoI a b) w) := by
  have HBO := hid (fun w1 (hb : Below w.heap.size w w1) => both_any a b A B k m w1 (ra.step hb) la (rb.step hb) lb)
  have q2 : (twoI a b == 0) = false := by simpa using h0
  generalize twoI a b = I at *
  clear h0 ra rb
  obtain ⟨a0, a1, a2, a3, al⟩ := a
  obtain ⟨b0, b1, b2, b3, bl⟩ := b
  simp only [cval] at *
  go_enter Try.func33, Try.ntmps33
  go_wp2_with fail
  refine (HBO.out _ (by (repeat' (first | (with_reducible exact Below.refl _ _) | (with_reducible assumption) | (with_reducible refine below_drewN ?_ _) | (with_reducible refine Below.drew ?_) | (with_reducible refine Below.alloc ?_ ?_ _) | (with_reducible refine Below.setCell ?_ ?_ _) | (refine Below.trans ?_ (Below.mono (by assumption) ?_)) | go_size)))).mono ?_
  rintro e w1 ⟨rfl, hb1⟩
  go_wp2
  go_ret2
  exact ⟨_, rfl, World.ownsRow_nil _ _ _ _, (by refine Below.step' ?_ hb1; (repeat' (first | (with_reducible exact Below.refl _ _) | (with_reducible assumption) | (with_reducible refine below_drewN ?_ _) | (with_reducible refine Below.drew ?_) | (with_reducible refine Below.alloc ?_ ?_ _) | (with_reducible refine Below.setCell ?_ ?_ _) | (refine Below.trans ?_ (Below.mono (by assumption) ?_)) | go_size)))⟩

set_option maxHeartbeats 1000000 in
set_option maxRecDepth 100000 in
theorem minus_good (a b : Ctx) (A B : Option Addr) (k m : Nat) (w : World) (ra : Row w w.heap.size A (dcells a.cloud)) (la : a.cloud.length ≤ 400)
    (rb : Row w w.heap.size B (dcells b.cloud)) (lb : b.cloud.length ≤ 400) (ca : clkIn a) (cb : clkIn b) (h0 : twoI a b = 0) :
    Calls Try.prog 33 #[cval a A k, cval b B m] w (DotsErr (if 400 < (clkAll a b ++ cldAll a b).length then [] else (clkAll a b ++ cldAll a b).mergeSort dotLe) (if 400 < (clkAll a b ++ cldAll a b).length then 2 else 0) w) := by
  have HBO := hid (fun w1 (hb : Below w.heap.size w w1) => both_any a b A B k m w1 (ra.step hb) (by omega) (rb.step hb) (by omega))
  rw [h0] at HBO
  have HH := hid (fun w1 (hb : Below w.heap.size w w1) d => has_any b d B m w1 (rb.step hb) (by omega))
  obtain ⟨R, hR⟩ : ∃ R, R = (if 400 < (clkAll a b ++ cldAll a b).length then [] else (clkAll a b ++ cldAll a b).mergeSort dotLe) := ⟨_, rfl⟩
  obtain ⟨X, hX⟩ : ∃ X : Int, X = (if 400 < (clkAll a b ++ cldAll a b).length then 2 else 0) := ⟨_, rfl⟩
  rw [← hR, ← hX]
  have HR := hid hR
  have HX := hid hX
  have RA := hid ra
  have CA := hid ca
  have CB := hid cb
  have UA := hid (clkUp_all a b)
  have UL := hid (fun i (h : i ≤ 4) => clkUp_le a b h)
  have CELB := hid (fun n h0 h4 v => at_cell b n h0 h4 v)
  have CLKA := hid (clk_at a)
  clear ra rb ca cb hR hX h0
  obtain ⟨i0, hi0, hz0, hz1, hz2⟩ := info_parts info_dot
  go_enter Try.func33, Try.ntmps33
  simp only [cval]
  go_wp2_with fail
  refine (HBO.out _ (by (repeat' (first | (with_reducible exact Below.refl _ _) | (with_reducible assumption) | (with_reducible refine below_drewN ?_ _) | (with_reducible refine Below.drew ?_) | (with_reducible refine Below.alloc ?_ ?_ _) | (with_reducible refine Below.setCell ?_ ?_ _) | (refine Below.trans ?_ (Below.mono (by assumption) ?_)) | go_size)))).mono ?_
  rintro e W0 ⟨rfl, hb1⟩
  have hB0 : Below w.heap.size w W0 := (by refine Below.step' ?_ hb1; (repeat' (first | (with_reducible exact Below.refl _ _) | (with_reducible assumption) | (with_reducible refine below_drewN ?_ _) | (with_reducible refine Below.drew ?_) | (with_reducible refine Below.alloc ?_ ?_ _) | (with_reducible refine Below.setCell ?_ ?_ _) | (refine Below.trans ?_ (Below.mono (by assumption) ?_)) | go_size)))
  have hXa : Blk W0 w.heap.size (cbox a A k) 25 := Blk.step (by exact (Blk.new w _ _).alloc _) hb1
  have hXb : Blk W0 (w.heap.size + 1) (cbox b B m) 25 := Blk.step (by exact Blk.new' (w.alloc _) _ _ (by simp)) hb1
  have xa0 := hXa.cells.1
  have HB0 := hid hB0
  have HXA := hid hXa
  have HXB := hid hXb
  clear hB0 hXa hXb hb1
  simp only [cbox] at xa0
  go_wp2
  go_outline
  clear xa0
  go_loopw [7, 22] (fun s7 s22 wr => ∃ i : Nat, i ≤ 4 ∧ s22 = .int .i64 i ∧ (clkUp a b i).length ≤ 400 ∧ wr.ownsRow W0.heap.size 27 2 s7 (clkUp a b i).length (dcells (clkUp a b i)) ∧ Below W0.heap.size W0 wr) (fun _ s22 _ => 4 - (intOf s22).toNat)
  case atStart => exact ⟨0, by omega, rfl, by simp [clkUp], World.ownsRow_nil _ _ _ _, Below.refl _ _⟩
  case round =>
    obtain ⟨i, hi, rfl, hlen, hown, hbw⟩ := hrel
    by_cases hlt : i < 4
    · have xb := (HXB.out.step hbw).cells.1
      have heb := CELB.out i (by omega) (by omega) (.slice B b.cloud.length m)
      have eb : wr.cell? ⟨w.heap.size + 1, i, none⟩ = some (.int .i64 (b.at_ i)) := by rw [xb]; exact heb
      have ka := CLKA.out i hlt
      have ti : decide ((i : Int) < 4) = true := by simp; omega
      have ia := at_in CA.out i
      have ib := at_in CB.out i
      obtain ⟨ia0, ia1⟩ := ia
      obtain ⟨ib0, ib1⟩ := ib
      have HOWN := hid hown
      have HBW := hid hbw
      clear xb hown hbw
      obtain ⟨O, hO⟩ : ∃ O, O = clkUp a b i := ⟨_, rfl⟩
      obtain ⟨K, hK⟩ : ∃ K, K = (a.at_ i - b.at_ i).toNat := ⟨_, rfl⟩
      have hS : clkUp a b (i + 1) = O ++ clkDots a b i K := by rw [hO, hK]; rfl
      have hsuc : ∀ j, clkDots a b i (j + 1) = clkDots a b i j ++ (if hasB b ((i : Int), b.at_ i + 1 + (j : Int)) = true then [] else [((i : Int), b.at_ i + 1 + (j : Int))]) := fun j => clkDots_succ a b i j
      have hpre : ∀ j, j ≤ K → (O ++ clkDots a b i j).length ≤ (clkAll a b).length := by
        intro j hj
        obtain ⟨D, hD⟩ := clkDots_prefix a b i j K hj
        have h1 := UL.out (i + 1) (by omega)
        rw [hS, UA.out, hD] at h1
        simp only [List.length_append] at *
        omega
      rw [← hO] at HOWN hlen
      have HS := hid hS
      have HSUC := hid hsuc
      have HPRE := hid hpre
      clear hS hO hsuc hpre
      generalize a.at_ i = ai at *
      generalize b.at_ i = bi at *
      have hk1 : bi + 1 + (K : Int) ≤ 2199023255553 := by omega
      have HK := hid hK
      clear hK
      obtain ⟨wo, rfl⟩ : ∃ wo : World, wo = wr := ⟨_, rfl⟩
      go_wp2
      clear eb ka
      go_loopw [7, 10] (fun s7 s10 wr => ∃ j : Nat, j ≤ K ∧ s10 = .int .i64 (bi + 1 + j) ∧ (O ++ clkDots a b i j).length ≤ 400 ∧ wr.ownsRow W0.heap.size 27 2 s7 (O ++ clkDots a b i j).length (dcells (O ++ clkDots a b i j)) ∧ Below W0.heap.size W0 wr) (fun _ s10 _ => (bi + 1 + K - intOf s10).toNat)
      case atStart => exact ⟨0, by omega, by simp, by simpa [clkDots] using hlen, by simpa [clkDots] using HOWN.out, HBW.out⟩
      case round =>
        obtain ⟨j, hj, rfl, hl2, hown2, hb2⟩ := hrel
        have hB : Below w.heap.size w wr := Below.step' HB0.out hb2
        obtain ⟨A2, c2, rfl⟩ := own_form hown2
        obtain ⟨o2, ho2⟩ : ∃ o2, o2 = O ++ clkDots a b i j := ⟨_, rfl⟩
        rw [← ho2] at hown2 hl2 ⊢
        have HO2 := hid ho2
        clear ho2
        by_cases hjK : j < K
        · have t1 : bi + 1 + (j : Int) ≤ ai := by have := HK.out; omega
          have xb := (HXB.out.step hb2).cells.1
          have sb := (HXB.out.step hb2).lt
          have nb : (w.heap.size + 1 = wr.heap.size) = False := by simp; omega
          have HOWN2 := hid hown2
          have HB2 := hid hb2
          have HBB := hid hB
          have hP1 := HPRE.out (j + 1) (by omega)
          rw [HSUC.out j] at hP1
          clear hown2 hb2 hB
          cases hq : hasB b ((i : Int), bi + 1 + (j : Int))
          · have HQ := hid hq
            rw [hq, if_neg (by simp), ← List.append_assoc, ← HO2.out] at hP1
            have HP1 := hid hP1
            clear hP1
            go_wp2_with fail
            refine (HH.out _ (HBB.out.alloc (by omega) _) ((i : Int), bi + 1 + (j : Int))).mono ?_
            rw [hq]
            rintro e w5 ⟨rfl, hb5⟩
            have hB5 : Below wr.heap.size wr w5 := (by refine Below.step' ?_ hb5; (repeat' (first | (with_reducible exact Below.refl _ _) | (with_reducible assumption) | (with_reducible refine below_drewN ?_ _) | (with_reducible refine Below.drew ?_) | (with_reducible refine Below.alloc ?_ ?_ _) | (with_reducible refine Below.setCell ?_ ?_ _) | (refine Below.trans ?_ (Below.mono (by assumption) ?_)) | go_size)))
            have hx5 : Blk w5 wr.heap.size #[.int .i64 i, .int .i64 (bi + 1 + j)] 27 := (Blk.new wr _ _).step hb5
            have c5 := hx5.cells.1
            have HOWN5 := hid (own_later HOWN2.out hB5)
            have HB5 := hid (Below.step' HB2.out hB5)
            have hs5 := hB5.size
            have hs0 := (Below.step' HB2.out hB5).size
            clear xb hb5 hB5 hx5 hq
            by_cases h4 : o2.length + 1 ≤ 400
            all_goals go_wp2_with (at_builtin; refine wpList_append_own _ rfl _ _ 23 rfl W0.heap.size 27 i0 _ 2 16 Try.underlying23 hi0 hz0 hz1 hz2 rfl (by decide) _ _ _ rfl (HOWN5.out.alloc _) ⟨w5.heap.size, 0, none⟩ 1 1 (dcells [((i : Int), bi + 1 + (j : Int))]) rfl rfl (news_new w5 _ _ _ _ rfl) (dcells_one _) ?_ ?_ ?_ ?_; rotate_right; intro v6 w6 hown6 hg6 _; obtain ⟨A6, c6, rfl⟩ := own_form hown6; have HOWN6 := hid hown6; clear hown6; rotate_left; (simp only [maxLen]; omega); (omega); (simp; omega))
            · go_roundw
              case rel =>
                refine ⟨j + 1, by omega, by go_num, ?_, ?_, grown_below (HB5.out.alloc (by omega) _) hg6 (HOWN5.out.alloc _) (by simp; omega)⟩
                · rw [HSUC.out j, HQ.out, if_neg (by simp), ← List.append_assoc, ← HO2.out]; simpa using h4
                · rw [HSUC.out j, HQ.out, if_neg (by simp), ← List.append_assoc, ← HO2.out]
                  have := HOWN6.out
                  simpa [dcells] using this
              case measure => simp [intOf]; omega
            · go_ret2
              have hbig : 400 < (clkAll a b ++ cldAll a b).length := by have := HP1.out; simp only [List.length_append, List.length_cons, List.length_nil] at *; omega
              refine ⟨_, ret_vi (by rw [HX.out, if_pos hbig]), by rw [HR.out, if_pos hbig]; exact World.ownsRow_nil _ _ _ _, ?_⟩
              exact Below.step' HB0.out (grown_below (HB5.out.alloc (by omega) _) hg6 (HOWN5.out.alloc _) (by simp; omega))
          · have HQ := hid hq
            clear hP1
            go_wp2_with fail
            refine (HH.out _ (HBB.out.alloc (by omega) _) ((i : Int), bi + 1 + (j : Int))).mono ?_
            rw [hq]
            rintro e w5 ⟨rfl, hb5⟩
            have hB5 : Below wr.heap.size wr w5 := (by refine Below.step' ?_ hb5; (repeat' (first | (with_reducible exact Below.refl _ _) | (with_reducible assumption) | (with_reducible refine below_drewN ?_ _) | (with_reducible refine Below.drew ?_) | (with_reducible refine Below.alloc ?_ ?_ _) | (with_reducible refine Below.setCell ?_ ?_ _) | (refine Below.trans ?_ (Below.mono (by assumption) ?_)) | go_size)))
            have HOWN5 := hid (own_later HOWN2.out hB5)
            have HB5 := hid (Below.step' HB2.out hB5)
            clear xb hb5 hB5 hq
            go_wp2
            go_roundw
            case rel =>
              refine ⟨j + 1, by omega, by go_num, ?_, ?_, HB5.out⟩
              · rw [HSUC.out j, HQ.out, if_pos rfl, List.append_nil, ← HO2.out]; exact hl2
              · rw [HSUC.out j, HQ.out, if_pos rfl, List.append_nil, ← HO2.out]
                exact HOWN5.out
            case measure => simp [intOf]; omega
        · have e : j = K := by omega
          have t1 : ai < bi + 1 + (j : Int) := by have := HK.out; omega
          have HE := hid e
          have HOWN2 := hid hown2
          have HB2 := hid hb2
          clear hown2 hb2 hB e
          go_wp2
          go_roundw
          case rel =>
            refine ⟨i + 1, by omega, by go_num, ?_, ?_, HB2.out⟩
            · rw [HS.out, ← HE.out, ← HO2.out]; exact hl2
            · rw [HS.out, ← HE.out, ← HO2.out]; exact HOWN2.out
          case measure => simp [intOf]; omega
    · have e : i = 4 := by omega
      have HE := hid e
      rw [e, UA.out] at hlen hown
      clear e
      obtain ⟨A3, c3, rfl⟩ := own_form hown
      have xa := (HXA.out.step hbw).cells.1
      have e4 : wr.cell? ⟨w.heap.size, 4, none⟩ = some (.slice A a.cloud.length k) := by rw [xa]; rfl
      have hbo : Below w.heap.size w wr := Below.step' HB0.out hbw
      have hso := hbw.size
      have HOWN := hid hown
      have HBW := hid hbw
      clear hown hbw xa hbo
      obtain ⟨wo, rfl⟩ : ∃ wo : World, wo = wr := ⟨_, rfl⟩
      go_wp2
      clear e4
      go_loopw [7, 54] (fun s7 s54 wr => ∃ j : Nat, j ≤ a.cloud.length ∧ s54 = .int .i64 j ∧ wr.ownsRow W0.heap.size 27 2 s7 (clkAll a b ++ (a.cloud.take j).filter (fun d => !hasB b d)).length (dcells (clkAll a b ++ (a.cloud.take j).filter (fun d => !hasB b d))) ∧ Below W0.heap.size W0 wr) (fun _ s54 _ => a.cloud.length - (intOf s54).toNat)
      case atStart => exact ⟨0, by omega, rfl, by simpa using HOWN.out, HBW.out⟩
      case round =>
        obtain ⟨j, hj, rfl, hown4, hb4⟩ := hrel
        have hB : Below w.heap.size w wr := Below.step' HB0.out hb4
        have hl4 : (clkAll a b ++ (a.cloud.take j).filter (fun d => !hasB b d)).length ≤ 800 := by
          have := List.length_filter_le (fun d : Int × Int => !hasB b d) (a.cloud.take j)
          simp only [List.length_append, List.length_take] at *
          omega
        have hst : ∀ hj : j < a.cloud.length, clkAll a b ++ (a.cloud.take (j + 1)).filter (fun d => !hasB b d) = (clkAll a b ++ (a.cloud.take j).filter (fun d => !hasB b d)) ++ (if (!hasB b a.cloud[j]) = true then [a.cloud[j]] else []) := by
          intro hj
          rw [List.take_succ_eq_append_getElem hj, List.filter_append, List.append_assoc]
          congr 2
          rw [List.filter_cons, List.filter_nil]
        obtain ⟨o4, ho4⟩ : ∃ o4, o4 = clkAll a b ++ (a.cloud.take j).filter (fun d => !hasB b d) := ⟨_, rfl⟩
        rw [← ho4] at hown4 hl4 hst
        obtain ⟨A4, c4, rfl⟩ := own_form hown4
        have HO4 := hid ho4
        clear ho4
        by_cases hjl : j < a.cloud.length
        · have hst2 := hst hjl
          have HST := hid hst2
          clear hst hst2
          obtain ⟨b', off, hA, hb', h0, h1⟩ := (RA.out.step hB).dot hjl
          subst hA
          have xb := (HXB.out.step hb4).cells.1
          have sb := (HXB.out.step hb4).lt
          have nb : (w.heap.size + 1 = wr.heap.size) = False := by simp; omega
          have HOWN4 := hid hown4
          have HB4 := hid hb4
          have HBB := hid hB
          have hs0 := hb4.size
          clear hown4 hb4 hB
          generalize a.cloud[j] = d at *
          obtain ⟨d0, d1⟩ := d
          simp only at h0 h1
          cases hq : hasB b (d0, d1)
          · have HQ := hid hq
            go_wp2_with fail
            refine (HH.out _ (HBB.out.alloc (by omega) _) (d0, d1)).mono ?_
            rw [hq]
            rintro e w5 ⟨rfl, hb5⟩
            have hB5 : Below wr.heap.size wr w5 := (by refine Below.step' ?_ hb5; (repeat' (first | (with_reducible exact Below.refl _ _) | (with_reducible assumption) | (with_reducible refine below_drewN ?_ _) | (with_reducible refine Below.drew ?_) | (with_reducible refine Below.alloc ?_ ?_ _) | (with_reducible refine Below.setCell ?_ ?_ _) | (refine Below.trans ?_ (Below.mono (by assumption) ?_)) | go_size)))
            have hx5 : Blk w5 wr.heap.size #[.int .i64 d0, .int .i64 d1] 27 := (Blk.new wr _ _).step hb5
            have c5 := hx5.cells.1
            have HOWN5 := hid (own_later HOWN4.out hB5)
            have HB5 := hid (Below.step' HB4.out hB5)
            have hs5 := hB5.size
            clear xb hb5 hB5 hx5 hq h0 h1
            go_wp2_with (at_builtin; refine wpList_append_own _ rfl _ _ 23 rfl W0.heap.size 27 i0 _ 2 16 Try.underlying23 hi0 hz0 hz1 hz2 rfl (by decide) _ _ _ rfl (HOWN5.out.alloc _) ⟨w5.heap.size, 0, none⟩ 1 1 (dcells [(d0, d1)]) rfl rfl (news_new w5 _ _ _ _ rfl) (dcells_one _) ?_ ?_ ?_ ?_; rotate_right; intro v6 w6 hown6 hg6 _; rotate_left; (simp only [maxLen]; omega); (omega); (simp; omega))
            go_roundw
            case rel =>
              refine ⟨j + 1, by omega, by go_num, ?_, grown_below (HB5.out.alloc (by omega) _) hg6 (HOWN5.out.alloc _) (by simp; omega)⟩
              rw [HST.out, HQ.out, if_pos (by simp)]
              simpa [dcells] using hown6
            case measure => simp [intOf]; omega
          · have HQ := hid hq
            go_wp2_with fail
            refine (HH.out _ (HBB.out.alloc (by omega) _) (d0, d1)).mono ?_
            rw [hq]
            rintro e w5 ⟨rfl, hb5⟩
            have hB5 : Below wr.heap.size wr w5 := (by refine Below.step' ?_ hb5; (repeat' (first | (with_reducible exact Below.refl _ _) | (with_reducible assumption) | (with_reducible refine below_drewN ?_ _) | (with_reducible refine Below.drew ?_) | (with_reducible refine Below.alloc ?_ ?_ _) | (with_reducible refine Below.setCell ?_ ?_ _) | (refine Below.trans ?_ (Below.mono (by assumption) ?_)) | go_size)))
            have HOWN5 := hid (own_later HOWN4.out hB5)
            have HB5 := hid (Below.step' HB4.out hB5)
            clear xb hb5 hB5 hq h0 h1
            go_wp2
            go_roundw
            case rel =>
              refine ⟨j + 1, by omega, by go_num, ?_, HB5.out⟩
              rw [HST.out, HQ.out, if_neg (by simp), List.append_nil]
              exact HOWN5.out
            case measure => simp [intOf]; omega
        · have e4 : o4 = clkAll a b ++ cldAll a b := by rw [HO4.out, List.take_of_length_le (by omega)]; rfl
          rw [← e4] at HR HX
          have HOWN4 := hid hown4
          have HB4 := hid (Below.step' HB0.out hb4)
          have hs4 := hb4.size
          have hs0 := HB0.out.size
          clear hown4 hb4 hB hst e4
          by_cases h4 : 400 < o4.length
          · go_wp2
            go_ret2
            exact ⟨_, ret_vi (by rw [HX.out, if_pos h4]), by rw [HR.out, if_pos h4]; exact World.ownsRow_nil _ _ _ _, HB4.out⟩
          · have HSO := hid (sort_own o4 wr HOWN4.out (by omega))
            go_wp2_with fail
            refine HSO.out.mono ?_
            rintro e w7 ⟨rfl, hown7, hg7⟩
            have HOWN7 := hid hown7
            have HG7 := hid hg7
            clear hown7 hg7
            go_wp2
            go_ret2
            refine ⟨_, ret_vi (by rw [HX.out, if_neg h4]), ?_, ?_⟩
            · rw [HR.out, if_neg h4, List.length_mergeSort]
              exact own_base HOWN7.out hs0
            · exact HB4.out.grown HG7.out (by omega) (fun g e => by have := (HOWN4.out.lt g e).1; omega)
end Go.Proofs.Ytogegnikpjcpdaa
/- append onto an owned row from whatever row, nil or not: one law for plain regions, one for regions that draw. No program in sight. -/
namespace Go.Proofs.Ytogegnikpjcpdaa
set_option linter.unusedVariables false
open Go.RowKit

/-- What the table says of a slice type's elements. -/
structure Elem (P : Program) (t e : TypeId) (size bytes : Nat) : Prop where
  ht : P.underlying t = some (.slice e)
  hi : ∃ i z, P.info? e = some i ∧ i.zero = some z ∧ i.size = size ∧ i.bytes = bytes ∧ z.cells.size = size
  pos : 0 < size

theorem addr_add (b off j : Nat) : (⟨b, off, none⟩ : Addr).add j = ⟨b, off + j, none⟩ := by
  by_cases h : j = 0 <;> simp [Addr.add, h]

theorem Row.new (w : World) (cs : Array Value) (T : TypeId) {B : Nat} (hB : w.heap.size < B) : Row (w.alloc (.cells cs T)) B (some ⟨w.heap.size, 0, none⟩) cs.toList :=
  .inr ⟨w.heap.size, 0, rfl, hB, fun j u hu => by
    have h := (Blk.new w cs T).cells.1 j
    rw [Nat.zero_add, h]
    simpa using hu⟩
theorem Row.new' (w : World) (cs : Array Value) (T : TypeId) {h B : Nat} {xs : List Value} (e : w.heap.size = h) (hx : xs = cs.toList) (hB : h < B) : Row (w.alloc (.cells cs T)) B (some ⟨h, 0, none⟩) xs := by
  subst e hx; exact Row.new w cs T hB
theorem Row.drew {w : World} {B : Nat} {A : Option Addr} {xs : List Value} (h : Row w B A xs) : Row w.drew B A xs := h
theorem Row.drewN {w : World} {B : Nat} {A : Option Addr} {xs : List Value} (h : Row w B A xs) (n : Nat) : Row (w.drewN n) B A xs := h
theorem Row.alloc {w : World} {A : Option Addr} {xs : List Value} (h : Row w w.heap.size A xs) (o : Obj) : Row (w.alloc o) (w.alloc o).heap.size A xs := h.step ((Below.refl _ _).alloc (Nat.le_refl _) o)
theorem Row.grown {w w' : World} {B : Nat} {A : Option Addr} {xs : List Value} {row : Option Nat} (h : Row w B A xs) (hB : B ≤ w.heap.size) (hg : w.grownBy w' row) (hr : ∀ k, row = some k → B ≤ k) : Row w' B A xs :=
  h.below (C := B) ⟨hg.os, hg.tape, hg.output, hg.size, fun k hk => hg.block k (by omega) (fun e => by have := hr k e.symm; omega)⟩ (Nat.le_refl _)

theorem run_append_zero {P : Program} (w : World) (base : Nat) (t ty e : TypeId) (i : TypeInfo) (size : Nat) (ht : P.underlying t = some (.slice e)) (hi : P.info? e = some i)
    (v : Value) (n : Nat) (xs : List Value) (hown : w.ownsRow base e size v n xs) (A : Option Addr) (c : Nat) :
    (Builtin.append_ #[t, t] ty #[v, .slice A 0 c]).run P w = .ok v w := by
  cases A with
  | none =>
    rcases hown.2 with ⟨rfl, rfl⟩ | ⟨g, cap, cur, rfl, _, _, hnc, _⟩
    · simp [Builtin.append_, run_underlying ht, sizeOf, typeInfo, hi, Builtin.lenOf, Builtin.firstCells]
    · simp [Builtin.append_, run_underlying ht, sizeOf, typeInfo, hi, Builtin.lenOf, Builtin.firstCells, hnc, storeCells]
  | some a =>
    rcases hown.2 with ⟨rfl, rfl⟩ | ⟨g, cap, cur, rfl, _, _, hnc, _⟩
    · simp [Builtin.append_, run_underlying ht, sizeOf, typeInfo, hi, Builtin.lenOf, Builtin.firstCells, loadCells, loadCellsFrom]
    · simp [Builtin.append_, run_underlying ht, sizeOf, typeInfo, hi, Builtin.lenOf, Builtin.firstCells, hnc, storeCells, loadCells, loadCellsFrom]

theorem run_append_row {P : Program} (w : World) (base : Nat) (t ty e : TypeId) {size bytes : Nat} (El : Elem P t e size bytes)
    (v : Value) (n : Nat) (xs : List Value) (hown : w.ownsRow base e size v n xs)
    (A : Option Addr) (m c B : Nat) (news : List Value) (hl : news.length = m * size) (hnews : Row w B A news) (h1 : ∀ u ∈ news, u.oneCell' = true)
    (h63 : n + m ≤ maxLen) (hbytes : (n + m) * bytes ≤ 140737488355328) (hbase : base ≤ w.heap.size) :
    ∃ v' w', (Builtin.append_ #[t, t] ty #[v, .slice A m c]).run P w = .ok v' w' ∧ w'.ownsRow base e size v' (n + m) (xs ++ news) ∧ w.grownBy w' v.ownBlock ∧ (v'.ownBlock = v.ownBlock ∨ v'.ownBlock = some w.heap.size) := by
  obtain ⟨i, z, hi, hz, hsize, hby, hzs⟩ := El.hi
  rcases hnews with rfl | ⟨b, off, rfl, hb, hc⟩
  · have hm : m = 0 := by
      have hp := El.pos
      simp only [List.length_nil] at hl
      rcases Nat.mul_eq_zero.1 hl.symm with h | h <;> omega
    subst hm
    exact ⟨v, w, run_append_zero w base t ty e i size El.ht hi v n xs hown A c, by simpa using hown, ⟨rfl, rfl, rfl, Nat.le_refl _, fun _ _ _ => rfl⟩, .inl rfl⟩
  · obtain ⟨v', w', hr, h2, h3, h4, h5⟩ := run_append_own_at (P := P) w base t ty e i z size bytes El.ht hi hz hsize hby hzs El.pos v n xs hown ⟨b, off, none⟩ m c news hl (fun j u hu => by
      rw [addr_add]
      exact hc j u hu) h1 h63 hbytes hbase
    exact ⟨v', w', hr, h2, h3, h5⟩

theorem wp_append_row {P : Program} {w : World} {o : Oper} {a : Act} {K : Act → World → Prop} {Q : Exit → Act → World → Prop} {t e : TypeId} {size bytes : Nat} (El : Elem P t e size bytes) (s x : Operand)
    (ho : o.op = .call { callee := .builtin .append, args := #[s, x], argTypes := #[t, t] })
    (base : Nat) (v : Value) (n : Nat) (xs : List Value) (hs : a.eval s = v) (hown : w.ownsRow base e size v n xs)
    (A : Option Addr) (m c B : Nat) (news : List Value) (hx : a.eval x = .slice A m c) (hl : news.length = m * size) (hnews : Row w B A news) (h1 : ∀ u ∈ news, u.oneCell' = true)
    (h63 : n + m ≤ maxLen) (hbytes : (n + m) * bytes ≤ 140737488355328) (hbase : base ≤ w.heap.size)
    (h : ∀ v' w', w'.ownsRow base e size v' (n + m) (xs ++ news) → w.grownBy w' v.ownBlock → (v'.ownBlock = v.ownBlock ∨ v'.ownBlock = some w.heap.size) → K (a.put o.dst v') w') : o.wp P a w K Q := by
  obtain ⟨v', w', hr, h2, h3, h4⟩ := run_append_row (P := P) w base t o.type e El v n xs hown A m c B news hl hnews h1 h63 hbytes hbase
  unfold Oper.wp execOp
  simp only [ho, resolve, invoke, builtin, Sem.run_bind, Sem.run_pure, Result.andThen_ok, List.map_toArray, List.map_cons, List.map_nil, hs, hx, hr]
  exact h v' w' h2 h3 h4

theorem wpList_append_row {P : Program} {w : World} {ops : Array Oper} {rest : List Oper} {o : Oper} {a : Act} {Q : Exit → Act → World → Prop} {t e : TypeId} {size bytes : Nat} (El : Elem P t e size bytes) (hgd : o.guard = none) (s x : Operand)
    (ho : o.op = .call { callee := .builtin .append, args := #[s, x], argTypes := #[t, t] })
    (base : Nat) (v : Value) (n : Nat) (xs : List Value) (hs : a.eval s = v) (hown : w.ownsRow base e size v n xs)
    (A : Option Addr) (m c B : Nat) (news : List Value) (hx : a.eval x = .slice A m c) (hl : news.length = m * size) (hnews : Row w B A news) (h1 : ∀ u ∈ news, u.oneCell' = true)
    (h63 : n + m ≤ maxLen) (hbytes : (n + m) * bytes ≤ 140737488355328) (hbase : base ≤ w.heap.size)
    (h : ∀ v' w', w'.ownsRow base e size v' (n + m) (xs ++ news) → w.grownBy w' v.ownBlock → (v'.ownBlock = v.ownBlock ∨ v'.ownBlock = some w.heap.size) → wpList P ops Q rest (a.put o.dst v') w') :
    wpList P ops Q (o :: rest) a w :=
  wpList_plain hgd fun K hK => wp_append_row El s x ho base v n xs hs hown A m c B news hx hl hnews h1 h63 hbytes hbase fun v' w' a1 a2 a3 => hK _ _ (h v' w' a1 a2 a3)

theorem step_append_row {P : Program} {w : World} {ops : Array Oper} {o : Oper} {a : Act} {K : Act → World → Prop} {Q : Exit → Act → World → Prop} {E : Prop} {t e : TypeId} {size bytes : Nat} (El : Elem P t e size bytes) (hgd : o.guard = none) (s x : Operand)
    (ho : o.op = .call { callee := .builtin .append, args := #[s, x], argTypes := #[t, t] })
    (base : Nat) (v : Value) (n : Nat) (xs : List Value) (hs : a.eval s = v) (hown : w.ownsRow base e size v n xs)
    (A : Option Addr) (m c B : Nat) (news : List Value) (hx : a.eval x = .slice A m c) (hl : news.length = m * size) (hnews : Row w B A news) (h1 : ∀ u ∈ news, u.oneCell' = true)
    (h63 : n + m ≤ maxLen) (hbytes : (n + m) * bytes ≤ 140737488355328) (hbase : base ≤ w.heap.size)
    (h : ∀ v' w', w'.ownsRow base e size v' (n + m) (xs ++ news) → w.grownBy w' v.ownBlock → (v'.ownBlock = v.ownBlock ∨ v'.ownBlock = some w.heap.size) → K (a.put o.dst v') w') :
    if Region.wanted o (yielded ops a.tmps) = true then Oper.wp P o a w K Q else E := by
  have hw : Region.wanted o (yielded ops a.tmps) = true := by simp [Region.wanted, hgd]
  rw [if_pos hw]
  exact wp_append_row El s x ho base v n xs hs hown A m c B news hx hl hnews h1 h63 hbytes hbase h

/-- What is in the anchor world stands in a later one: for 'go_region_held3'. -/
theorem keepS {W w' : World} (h : Below W.heap.size W w') : (∀ b o, b < W.heap.size → w'.cell? ⟨b, o, none⟩ = W.cell? ⟨b, o, none⟩) ∧ Below W.heap.size W w' := ⟨(bcell h).1, h⟩
theorem own_ne_lo {w : World} {B n size : Nat} {T : TypeId} {v : Value} {xs : List Value} (h : w.ownsRow B T size v n xs) : ∀ b, b < B → (some b = v.ownBlock) = False :=
  fun b hb => eq_false fun e => Nat.lt_irrefl _ (Nat.lt_of_lt_of_le hb (h.lt b e.symm).1)
theorem own_ne_hi {w : World} {B n size : Nat} {T : TypeId} {v : Value} {xs : List Value} (h : w.ownsRow B T size v n xs) : ∀ b, w.heap.size ≤ b → (some b = v.ownBlock) = False :=
  fun b hb => eq_false fun e => Nat.lt_irrefl _ (Nat.lt_of_le_of_lt hb (h.lt b e.symm).2)
theorem cellsGrown {w w' : World} {row : Option Nat} (hg : w.grownBy w' row) :
    (∀ b o, b < w.heap.size → (some b = row) = False → w'.cell? ⟨b, o, none⟩ = w.cell? ⟨b, o, none⟩) ∧ (∀ b o, b < w.heap.size → (some b = row) = False → w'.frozen? ⟨b, o, none⟩ = w.frozen? ⟨b, o, none⟩) ∧ w.heap.size ≤ w'.heap.size :=
  ⟨fun b o hb hn => World.cell?_of_block (w := w) (hg.block b hb (fun e => by rw [hn] at e; exact e)), fun b o hb hn => World.frozen?_of_block (w := w) (hg.block b hb (fun e => by rw [hn] at e; exact e)), hg.size⟩
theorem below_grown {W w w' : World} {B n size : Nat} {T : TypeId} {v : Value} {xs : List Value} (h : Below W.heap.size W w) (hg : w.grownBy w' v.ownBlock) {w0 : World} (ho : w0.ownsRow B T size v n xs) (hB : W.heap.size ≤ B) : Below W.heap.size W w' :=
  h.grown hg h.size (fun g e => Nat.le_trans hB (ho.lt g e).1)
theorem Blk.grown' {w w' : World} {b : Nat} {cs : Array Value} {T : TypeId} {row : Option Nat} (h : Blk w b cs T) (hg : w.grownBy w' row) (hne : (some b = row) = False) : Blk w' b cs T := h.grown hg (fun e => by rw [hne] at e; exact e)
theorem lt_alloc (w : World) (o : Obj) : w.heap.size < (w.alloc o).heap.size := by simp
theorem Blk.five {w : World} {b : Nat} {x0 x1 x2 x3 x4 : Value} {T : TypeId} (h : Blk w b #[x0, x1, x2, x3, x4] T) :
    (w.cell? ⟨b, 0, none⟩ = some x0 ∧ w.cell? ⟨b, 1, none⟩ = some x1 ∧ w.cell? ⟨b, 2, none⟩ = some x2 ∧ w.cell? ⟨b, 3, none⟩ = some x3 ∧ w.cell? ⟨b, 4, none⟩ = some x4) ∧
    (w.frozen? ⟨b, 0, none⟩ = false ∧ w.frozen? ⟨b, 1, none⟩ = false ∧ w.frozen? ⟨b, 2, none⟩ = false ∧ w.frozen? ⟨b, 3, none⟩ = false ∧ w.frozen? ⟨b, 4, none⟩ = false) :=
  ⟨⟨h.cells.1 0, h.cells.1 1, h.cells.1 2, h.cells.1 3, h.cells.1 4⟩, h.cells.2 0, h.cells.2 1, h.cells.2 2, h.cells.2 3, h.cells.2 4⟩
theorem below_grown_nil {W w w' : World} (h : Below W.heap.size W w) (hg : w.grownBy w' (Value.slice none 0 0).ownBlock) : Below W.heap.size W w' :=
  h.grown hg h.size (fun g e => by simp [Value.ownBlock] at e)
theorem alloc_below {W w : World} (h : Below W.heap.size W w) (o : Obj) : Below W.heap.size W (w.alloc o) := h.alloc h.size o
theorem le_alloc (w : World) (o : Obj) : w.heap.size ≤ (w.alloc o).heap.size := by simp
end Go.Proofs.Ytogegnikpjcpdaa
