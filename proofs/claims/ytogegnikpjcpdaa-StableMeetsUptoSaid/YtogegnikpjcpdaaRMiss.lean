/- viewref.Missing. -/
import Derived.Test.YtogegnikpjcpdaaLess
import Derived.Test.YtogegnikpjcpdaaMiss
import Derived.Deep.CutBlock
import Derived.Deep.CutRange
namespace Go.Proofs.Ytogegnikpjcpdaa
set_option linter.unusedVariables false
open Go.ChangeShapes Go.WideShapes Go.ChangeAt Go.RowKit

def DotsPost (l : List (Int × Int)) (w : World) (e : Ending) (w' : World) : Prop :=
  ∃ v, e = .returned v ∧ w'.ownsRow w.heap.size 27 2 v l.length (dcells l) ∧ Below w.heap.size w w'

def missUp (a b : Ctx) : Nat → List (Int × Int)
  | 0 => []
  | i + 1 => missStep a b (missUp a b i) i
theorem missUp_R (a b : Ctx) : missUp a b 4 = missR a b := rfl
theorem missUp_le (a b : Ctx) (h : a.cloud.length ≤ 400) : ∀ i, (missUp a b i).length ≤ 401 + 400 * i
  | 0 => by simp [missUp]
  | i + 1 => by
    have ih := missUp_le a b h i
    have h1 : (cldMiss a b i).length ≤ a.cloud.length := List.length_filter_le _ _
    simp only [missUp, missStep, List.length_append, List.length_take]
    omega

theorem cap_snoc {α : Type} (O C : List α) (d : α) (h : (O ++ C.take (401 - O.length)).length ≤ 400) : O ++ (C ++ [d]).take (401 - O.length) = (O ++ C.take (401 - O.length)) ++ [d] := by
  simp only [List.length_append, List.length_take] at h
  rw [List.take_of_length_le (by simp; omega), List.take_of_length_le (by omega), List.append_assoc]
theorem cap_full {α : Type} (O C D : List α) (h : 400 < (O ++ C.take (401 - O.length)).length) : O ++ (C ++ D).take (401 - O.length) = O ++ C.take (401 - O.length) := by
  simp only [List.length_append, List.length_take] at h
  rw [List.take_append_of_le_length (by omega)]
theorem clkDots_prefix (a b : Ctx) (n : Int) (j : Nat) : ∀ K, j ≤ K → ∃ D, clkDots a b n K = clkDots a b n j ++ D
  | 0, h => ⟨[], by rw [show j = 0 by omega]; simp⟩
  | K + 1, h => by
    by_cases e : j = K + 1
    · exact ⟨[], by rw [e]; simp⟩
    · obtain ⟨D, hD⟩ := clkDots_prefix a b n j K (by omega)
      exact ⟨D ++ _, by rw [clkDots_succ, hD, List.append_assoc]⟩
theorem grown_below {B : Nat} {w0 w1 w2 : World} {n : Nat} {T : TypeId} {v : Value} {xs : List Value} (h : Below B w0 w1) (hg : w1.grownBy w2 v.ownBlock) (ho : w1.ownsRow B T 2 v n xs) (hB : B ≤ w1.heap.size) : Below B w0 w2 :=
  h.grown hg hB (fun g e => (ho.lt g e).1)

set_option maxHeartbeats 1000000 in
set_option maxRecDepth 100000 in
theorem missing_any (a b : Ctx) (A B : Option Addr) (k m : Nat) (w : World) (ra : Row w w.heap.size A (dcells a.cloud)) (la : a.cloud.length ≤ 400)
    (rb : Row w w.heap.size B (dcells b.cloud)) (lb : b.cloud.length ≤ 400) (ca : clkIn a) (cb : clkIn b) :
    Calls Try.prog 30 #[cval a A k, cval b B m] w (DotsPost (missR a b) w) := by
  have HH := hid (fun w1 (hb : Below w.heap.size w w1) d => Rhas_any b d B m w1 (rb.step hb) (by omega))
  have RA := hid ra
  have CA := hid ca
  have CB := hid cb
  have UR := hid (missUp_R a b)
  have UL := hid (missUp_le a b la)
  have CELA := hid (fun n h0 h4 v => at_cell a n h0 h4 v)
  have CELB := hid (fun n h0 h4 v => at_cell b n h0 h4 v)
  clear ra rb ca cb
  obtain ⟨i0, hi0, hz0, hz1, hz2⟩ := info_parts info_dot
  go_enter Try.func30, Try.ntmps30
  simp only [cval]
  go_wp2
  obtain ⟨W0, hW0⟩ : ∃ W0 : World, W0 = (w.alloc (.cells (cbox a A k) 25)).alloc (.cells (cbox b B m) 25) := ⟨_, rfl⟩
  simp only [cbox] at hW0
  rw [← hW0]
  have hB0 : Below w.heap.size w W0 := by rw [hW0]; (repeat' (first | (with_reducible exact Below.refl _ _) | (with_reducible assumption) | (with_reducible refine below_drewN ?_ _) | (with_reducible refine Below.drew ?_) | (with_reducible refine Below.alloc ?_ ?_ _) | (with_reducible refine Below.setCell ?_ ?_ _) | (refine Below.trans ?_ (Below.mono (by assumption) ?_)) | go_size))
  have hXa : Blk W0 w.heap.size (cbox a A k) 25 := by rw [hW0]; exact (Blk.new w _ _).alloc _
  have hXb : Blk W0 (w.heap.size + 1) (cbox b B m) 25 := by rw [hW0]; exact Blk.new' _ _ _ (by simp)
  clear hW0
  have HB0 := hid hB0
  have HXA := hid hXa
  have HXB := hid hXb
  clear hB0 hXa hXb
  go_loopw [5, 6] (fun s5 s6 wr => ∃ i : Nat, i ≤ 4 ∧ s6 = .int .i64 i ∧ wr.ownsRow W0.heap.size 27 2 s5 (missUp a b i).length (dcells (missUp a b i)) ∧ Below W0.heap.size W0 wr) (fun _ s6 _ => 4 - (intOf s6).toNat)
  case atStart => exact ⟨0, by omega, rfl, World.ownsRow_nil _ _ _ _, Below.refl _ _⟩
  case round =>
    obtain ⟨i, hi, rfl, hown, hbw⟩ := hrel
    by_cases hlt : i < 4
    · have xa := (HXA.out.step hbw).cells.1
      have xb := (HXB.out.step hbw).cells.1
      have hea := CELA.out i (by omega) (by omega) (.slice A a.cloud.length k)
      have ea : wr.cell? ⟨w.heap.size, i, none⟩ = some (.int .i64 (a.at_ i)) := by rw [xa]; exact hea
      have eb : wr.cell? ⟨w.heap.size + 1, i, none⟩ = some (.int .i64 (b.at_ i)) := by rw [xb]; exact CELB.out i (by omega) (by omega) _
      have ia := at_in CA.out i
      have ib := at_in CB.out i
      obtain ⟨ia0, ia1⟩ := ia
      obtain ⟨ib0, ib1⟩ := ib
      have HOWN := hid hown
      have HBW := hid hbw
      clear xa xb hown hbw
      go_wp2
      have hul := UL.out i
      obtain ⟨O, hO⟩ : ∃ O, O = missUp a b i := ⟨_, rfl⟩
      obtain ⟨K, hK⟩ : ∃ K, K = (a.at_ i - b.at_ i).toNat := ⟨_, rfl⟩
      obtain ⟨lo, hlo⟩ : ∃ lo, lo = min (a.at_ i) (b.at_ i) + 1 := ⟨_, rfl⟩
      have hS : missUp a b (i + 1) = O ++ (clkDots a b i K).take (401 - O.length) ++ cldMiss a b i := by rw [hO, hK]; rfl
      have hsuc : ∀ j, j < K → clkDots a b i (j + 1) = clkDots a b i j ++ (if hasB b ((i : Int), lo + (j : Int)) = true then [] else [((i : Int), lo + (j : Int))]) := by
        intro j hj
        rw [clkDots_succ, show b.at_ i + 1 = lo by omega]
      rw [← hO] at HOWN hul
      have zw : IntKind.i64.wrap (min (a.at_ i) (b.at_ i) + 1) = lo := (IntWalk.i64_in _ (by omega)).trans hlo.symm
      have hk : lo + (K : Int) = a.at_ i + 1 := by omega
      have hl0 : 1 ≤ lo := by omega
      have HS := hid hS
      have HSUC := hid hsuc
      clear hS hO hsuc hlo hK
      generalize a.at_ i = ai at *
      generalize b.at_ i = bi at *
      obtain ⟨wo, rfl⟩ : ∃ wo : World, wo = wr := ⟨_, rfl⟩
      refine wp_region_quiet_lit (by kernel_rfl) (by kernel_rfl) ?_
      repeat (any_goals ((with_reducible refine wpQuiet_step (fun K hK => ?_)); go_simp; first | (with_reducible refine hK _ ?_; clear hK K) | ((with_reducible apply Exists.intro); (with_reducible refine ⟨fun _ => ?_, hK _ ?_⟩); (fail); clear hK K) | ((with_reducible refine (if_neg ?_).mpr (hK _ ?_)); (decide); clear hK K) | (split <;> (with_reducible refine hK _ ?_; clear hK K))))
      all_goals ((with_reducible refine wpQuiet_nil ?_); intro _ hw'; obtain ⟨nq, hw''⟩ := hw'; subst hw'')
      clear zw ea eb
      have HK := hid hk
      have hk1 : lo + (K : Int) ≤ 1099511627777 := by omega
      clear hk
      go_upto_block 2 with fail
      go_cut [5] from 25 to 48 (fun s5 wx => wx.ownsRow W0.heap.size 27 2 s5 (O ++ (clkDots a b i K).take (401 - O.length)).length (dcells (O ++ (clkDots a b i K).take (401 - O.length))) ∧ Below W0.heap.size W0 wx)
      case first =>
        go_wp2_with fail
        go_loopw [5, 7] (fun s5 s7 wr => ∃ j : Nat, j ≤ K ∧ s7 = .int .i64 (lo + j) ∧ wr.ownsRow W0.heap.size 27 2 s5 (O ++ (clkDots a b i j).take (401 - O.length)).length (dcells (O ++ (clkDots a b i j).take (401 - O.length))) ∧ Below W0.heap.size W0 wr) (fun _ s7 _ => (lo + K - intOf s7).toNat)
        case atStart => exact ⟨0, by omega, by simp, by simpa [clkDots] using own_later HOWN.out (below_drewN (Below.refl _ _) nq), below_drewN HBW.out nq⟩
        case round =>
          obtain ⟨j, hj, rfl, hown2, hb2⟩ := hrel
          have xa := (HXA.out.step hb2).cells.1
          have ea : wr.cell? ⟨w.heap.size, i, none⟩ = some (.int .i64 ai) := by rw [xa]; exact hea
          have hB : Below w.heap.size w wr := Below.step' HB0.out hb2
          have hl2 : (O ++ (clkDots a b i j).take (401 - O.length)).length ≤ 401 ∨ (O ++ (clkDots a b i j).take (401 - O.length)).length ≤ O.length := by simp only [List.length_append, List.length_take]; omega
          obtain ⟨A2, c2, rfl⟩ := own_form hown2
          obtain ⟨o2, ho2⟩ : ∃ o2, o2 = O ++ (clkDots a b i j).take (401 - O.length) := ⟨_, rfl⟩
          rw [← ho2] at hown2 hl2 ⊢
          have HO2 := hid ho2
          clear ho2 xa
          by_cases hjK : j < K
          · by_cases h4 : o2.length ≤ 400
            · have t1 : lo + (j : Int) ≤ ai := by have := HK.out; omega
              have t2 : (o2.length : Int) ≤ 400 := by omega
              have xb := (HXB.out.step hb2).cells.1
              have sb := (HXB.out.step hb2).lt
              have nb : (w.heap.size + 1 = wr.heap.size) = False := by simp; omega
              have HOWN2 := hid hown2
              have HB2 := hid hb2
              have HBB := hid hB
              clear hown2 hb2 hB hul hl2
              cases hq : hasB b ((i : Int), lo + (j : Int))
              · have HQ := hid hq
                go_wp2_with fail
                refine (HH.out _ (HBB.out.alloc (by omega) _) ((i : Int), lo + (j : Int))).mono ?_
                rw [hq]
                rintro e w5 ⟨rfl, hb5⟩
                have hB5 : Below wr.heap.size wr w5 := (by refine Below.step' ?_ hb5; (repeat' (first | (with_reducible exact Below.refl _ _) | (with_reducible assumption) | (with_reducible refine below_drewN ?_ _) | (with_reducible refine Below.drew ?_) | (with_reducible refine Below.alloc ?_ ?_ _) | (with_reducible refine Below.setCell ?_ ?_ _) | (refine Below.trans ?_ (Below.mono (by assumption) ?_)) | go_size)))
                have hx5 : Blk w5 wr.heap.size #[.int .i64 i, .int .i64 (lo + j)] 27 := (Blk.new wr _ _).step hb5
                have c5 := hx5.cells.1
                have HOWN5 := hid (own_later HOWN2.out hB5)
                have HB5 := hid (Below.step' HB2.out hB5)
                have hs5 := hB5.size
                have hs0 := (Below.step' HB2.out hB5).size
                clear xb hb5 hB5 hx5 hq
                go_wp2_with (at_builtin; refine wpList_append_own _ rfl _ _ 23 rfl W0.heap.size 27 i0 _ 2 16 Try.underlying23 hi0 hz0 hz1 hz2 rfl (by decide) _ _ _ rfl (HOWN5.out.alloc _) ⟨w5.heap.size, 0, none⟩ 1 1 (dcells [((i : Int), lo + (j : Int))]) rfl rfl (news_new w5 _ _ _ _ rfl) (dcells_one _) ?_ ?_ ?_ ?_; rotate_right; intro v6 w6 hown6 hg6 _; rotate_left; (simp only [maxLen]; omega); (omega); (simp; omega))
                go_roundw
                case rel =>
                  refine ⟨j + 1, by omega, by go_num, ?_, grown_below (HB5.out.alloc (by omega) _) hg6 (HOWN5.out.alloc _) (by simp; omega)⟩
                  rw [HSUC.out j hjK, HQ.out, if_neg (by simp), cap_snoc _ _ _ (by rw [← HO2.out]; exact h4), ← HO2.out]
                  simpa [dcells] using hown6
                case measure => simp [intOf]; omega
              · have HQ := hid hq
                go_wp2_with fail
                refine (HH.out _ (HBB.out.alloc (by omega) _) ((i : Int), lo + (j : Int))).mono ?_
                rw [hq]
                rintro e w5 ⟨rfl, hb5⟩
                have hB5 : Below wr.heap.size wr w5 := (by refine Below.step' ?_ hb5; (repeat' (first | (with_reducible exact Below.refl _ _) | (with_reducible assumption) | (with_reducible refine below_drewN ?_ _) | (with_reducible refine Below.drew ?_) | (with_reducible refine Below.alloc ?_ ?_ _) | (with_reducible refine Below.setCell ?_ ?_ _) | (refine Below.trans ?_ (Below.mono (by assumption) ?_)) | go_size)))
                have HOWN5 := hid (own_later HOWN2.out hB5)
                have HB5 := hid (Below.step' HB2.out hB5)
                clear xb hb5 hB5 hq
                go_wp2
                go_roundw
                case rel =>
                  refine ⟨j + 1, by omega, by go_num, ?_, HB5.out⟩
                  rw [HSUC.out j hjK, HQ.out, if_pos rfl, List.append_nil, ← HO2.out]
                  exact HOWN5.out
                case measure => simp [intOf]; omega
            · have t1 : lo + (j : Int) ≤ ai := by have := HK.out; omega
              have t2 : (400 : Int) < (o2.length : Int) := by omega
              have HOWN2 := hid hown2
              have HB2 := hid hb2
              clear hown2 hb2 hB hul hl2
              go_wp2
              go_meet
              case rel =>
                obtain ⟨D, hD⟩ := clkDots_prefix a b i j K hj
                rw [hD, cap_full _ _ _ (by rw [← HO2.out]; omega), ← HO2.out]
                exact ⟨HOWN2.out, HB2.out⟩
          · have e : j = K := by omega
            have t1 : ai < lo + (j : Int) := by have := HK.out; omega
            have HE := hid e
            have HOWN2 := hid hown2
            have HB2 := hid hb2
            clear hown2 hb2 hB hul hl2 e
            go_wp2
            go_meet
            case rel =>
              rw [← HE.out, ← HO2.out]
              exact ⟨HOWN2.out, HB2.out⟩
      case rest =>
        obtain ⟨hown3, hb3⟩ := hcut
        obtain ⟨wx, rfl⟩ : ∃ wx : World, wx = wc := ⟨_, rfl⟩
        obtain ⟨A3, c3, rfl⟩ := own_form hown3
        have hl3 : (O ++ (clkDots a b i K).take (401 - O.length)).length ≤ 2001 := by simp only [List.length_append, List.length_take]; omega
        generalize O ++ (clkDots a b i K).take (401 - O.length) = O3 at *
        have HOWN3 := hid hown3
        have HB3 := hid hb3
        clear hown3 hb3 hul HOWN HBW HK HSUC hea
        go_wp2
        go_loopw [5, 9] (fun s5 s9 wr => ∃ j : Nat, j ≤ a.cloud.length ∧ s9 = .int .i64 j ∧ wr.ownsRow W0.heap.size 27 2 s5 (O3 ++ (a.cloud.take j).filter (fun d => decide (d.1 = (i : Int)) && !hasB b d)).length (dcells (O3 ++ (a.cloud.take j).filter (fun d => decide (d.1 = (i : Int)) && !hasB b d))) ∧ Below W0.heap.size W0 wr) (fun _ s9 _ => a.cloud.length - (intOf s9).toNat)
        case atStart => exact ⟨0, by omega, rfl, by simpa using HOWN3.out, HB3.out⟩
        case round =>
          obtain ⟨j, hj, rfl, hown4, hb4⟩ := hrel
          have hB : Below w.heap.size w wr := Below.step' HB0.out hb4
          have xa := (HXA.out.step hb4).cells.1
          have e4 : wr.cell? ⟨w.heap.size, 4, none⟩ = some (.slice A a.cloud.length k) := by rw [xa]; rfl
          have hl4 : (O3 ++ (a.cloud.take j).filter (fun d => decide (d.1 = (i : Int)) && !hasB b d)).length ≤ 2401 := by
            have := List.length_filter_le (fun d : Int × Int => decide (d.1 = (i : Int)) && !hasB b d) (a.cloud.take j)
            simp only [List.length_append, List.length_take] at *
            omega
          have hst : ∀ hj : j < a.cloud.length, O3 ++ (a.cloud.take (j + 1)).filter (fun d => decide (d.1 = (i : Int)) && !hasB b d) = (O3 ++ (a.cloud.take j).filter (fun d => decide (d.1 = (i : Int)) && !hasB b d)) ++ (if (decide ((a.cloud[j]).1 = (i : Int)) && !hasB b a.cloud[j]) = true then [a.cloud[j]] else []) := by
            intro hj
            rw [List.take_succ_eq_append_getElem hj, List.filter_append, List.append_assoc]
            congr 2
            rw [List.filter_cons, List.filter_nil]
          obtain ⟨o4, ho4⟩ : ∃ o4, o4 = O3 ++ (a.cloud.take j).filter (fun d => decide (d.1 = (i : Int)) && !hasB b d) := ⟨_, rfl⟩
          rw [← ho4] at hown4 hl4 hst
          obtain ⟨A4, c4, rfl⟩ := own_form hown4
          have HO4 := hid ho4
          clear ho4 xa
          by_cases hjl : j < a.cloud.length
          · have hst2 := hst hjl
            have HST := hid hst2
            clear hst hst2
            obtain ⟨b', off, hA, hb', h0, h1⟩ := (RA.out.step hB).dot hjl
            rw [hA] at e4
            clear hA
            have xb := (HXB.out.step hb4).cells.1
            have sb := (HXB.out.step hb4).lt
            have nb : (w.heap.size + 1 = wr.heap.size) = False := by simp; omega
            have HOWN4 := hid hown4
            have HB4 := hid hb4
            have HBB := hid hB
            have hs0 := hb4.size
            clear hown4 hb4 hB
            generalize a.cloud[j] = d at *
            obtain ⟨d0, d1⟩ := d
            simp only at h0 h1
            by_cases hn : d0 = (i : Int)
            · have tq : ((d0 : Int) == (i : Int)) = true := by simp [hn]
              have HN := hid hn
              clear hn
              cases hq : hasB b (d0, d1)
              · have HQ := hid hq
                go_wp2_with fail
                refine (HH.out _ (HBB.out.alloc (by omega) _) (d0, d1)).mono ?_
                rw [hq]
                rintro e w5 ⟨rfl, hb5⟩
                have hB5 : Below wr.heap.size wr w5 := (by refine Below.step' ?_ hb5; (repeat' (first | (with_reducible exact Below.refl _ _) | (with_reducible assumption) | (with_reducible refine below_drewN ?_ _) | (with_reducible refine Below.drew ?_) | (with_reducible refine Below.alloc ?_ ?_ _) | (with_reducible refine Below.setCell ?_ ?_ _) | (refine Below.trans ?_ (Below.mono (by assumption) ?_)) | go_size)))
                have hx5 : Blk w5 wr.heap.size #[.int .i64 d0, .int .i64 d1] 27 := (Blk.new wr _ _).step hb5
                have c5 := hx5.cells.1
                have HOWN5 := hid (own_later HOWN4.out hB5)
                have HB5 := hid (Below.step' HB4.out hB5)
                have hs5 := hB5.size
                clear xb hb5 hB5 hx5 hq h0 h1 e4 tq
                go_wp2_with (at_builtin; refine wpList_append_own _ rfl _ _ 23 rfl W0.heap.size 27 i0 _ 2 16 Try.underlying23 hi0 hz0 hz1 hz2 rfl (by decide) _ _ _ rfl (HOWN5.out.alloc _) ⟨w5.heap.size, 0, none⟩ 1 1 (dcells [(d0, d1)]) rfl rfl (news_new w5 _ _ _ _ rfl) (dcells_one _) ?_ ?_ ?_ ?_; rotate_right; intro v6 w6 hown6 hg6 _; rotate_left; (simp only [maxLen]; omega); (omega); (simp; omega))
                go_roundw
                case rel =>
                  refine ⟨j + 1, by omega, by go_num, ?_, grown_below (HB5.out.alloc (by omega) _) hg6 (HOWN5.out.alloc _) (by simp; omega)⟩
                  rw [HST.out, HQ.out, if_pos (by simp [HN.out])]
                  simpa [dcells] using hown6
                case measure => simp [intOf]; omega
              · have HQ := hid hq
                go_wp2_with fail
                refine (HH.out _ (HBB.out.alloc (by omega) _) (d0, d1)).mono ?_
                rw [hq]
                rintro e w5 ⟨rfl, hb5⟩
                have hB5 : Below wr.heap.size wr w5 := (by refine Below.step' ?_ hb5; (repeat' (first | (with_reducible exact Below.refl _ _) | (with_reducible assumption) | (with_reducible refine below_drewN ?_ _) | (with_reducible refine Below.drew ?_) | (with_reducible refine Below.alloc ?_ ?_ _) | (with_reducible refine Below.setCell ?_ ?_ _) | (refine Below.trans ?_ (Below.mono (by assumption) ?_)) | go_size)))
                have HOWN5 := hid (own_later HOWN4.out hB5)
                have HB5 := hid (Below.step' HB4.out hB5)
                clear xb hb5 hB5 hq h0 h1 e4 tq
                go_wp2
                go_roundw
                case rel =>
                  refine ⟨j + 1, by omega, by go_num, ?_, HB5.out⟩
                  rw [HST.out, HQ.out, if_neg (by simp), List.append_nil]
                  exact HOWN5.out
                case measure => simp [intOf]; omega
            · have tq : ((d0 : Int) == (i : Int)) = false := by simp [hn]
              have HN := hid hn
              clear hn
              go_wp2
              go_roundw
              case rel =>
                have hB5 : Below wr.heap.size wr _ := (Below.refl wr.heap.size wr).alloc (Nat.le_refl _) (.cells #[.int .i64 d0, .int .i64 d1] 27)
                refine ⟨j + 1, by omega, by go_num, ?_, Below.step' HB4.out hB5⟩
                rw [HST.out, if_neg (by simp [HN.out]), List.append_nil]
                exact own_later HOWN4.out hB5
              case measure => simp [intOf]; omega
          · have HOWN4 := hid hown4
            have HB4 := hid hb4
            have HJ := hid (show (a.cloud.take j) = a.cloud from List.take_of_length_le (by omega))
            clear hown4 hb4 hB hst
            go_wp2
            go_roundw
            case rel =>
              refine ⟨i + 1, by omega, by go_num, ?_, HB4.out⟩
              have e := HO4.out
              rw [HJ.out] at e
              rw [HS.out, show O3 ++ cldMiss a b i = o4 from e.symm]
              exact HOWN4.out
            case measure => simp [intOf]; omega
    · have e : i = 4 := by omega
      have HE := hid e
      have HOWN := hid hown
      have HBW := hid hbw
      clear hown hbw e
      go_wp2
      go_ret
      refine ⟨_, rfl, ?_, Below.step' HB0.out HBW.out⟩
      have := HOWN.out
      rw [HE.out, UR.out] at this
      exact own_base this HB0.out.size
end Go.Proofs.Ytogegnikpjcpdaa
