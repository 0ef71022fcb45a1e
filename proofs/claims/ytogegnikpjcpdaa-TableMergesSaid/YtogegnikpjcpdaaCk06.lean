/- Minus, App, Join, Joined -/
import Derived.Test.YtogegnikpjcpdaaCk05
import Derived.Test.YtogegnikpjcpdaaCk02
import Derived.Maps.AppendAt
import Derived.Deep.RegionHeld3
/- dot.Minus. -/
namespace Go.Proofs.Ytogegnikpjcpdaa
set_option linter.unusedVariables false
open Go.ChangeShapes Go.WideShapes Go.ChangeAt Go.RowKit

def DotsErr (l : List (Int × Int)) (x : Int) (w : World) (e : Ending) (w' : World) : Prop :=
  ∃ v, e = .returned (.tuple #[v, .int .i64 x]) ∧ w'.ownsRow w.heap.size 27 2 v l.length (dcells l) ∧ Below w.heap.size w w'

theorem ret_vi {v : Value} {x y : Int} (h : x = y) : Ending.returned (.tuple #[v, .int .i64 x]) = .returned (.tuple #[v, .int .i64 y]) := by rw [h]

def minusX (a b : Ctx) : List (Int × Int) := if twoI a b ≠ 0 then [] else if 400 < (clkAll a b ++ cldAll a b).length then [] else (clkAll a b ++ cldAll a b).mergeSort dotLe
def minusE (a b : Ctx) : Int := if twoI a b ≠ 0 then twoI a b else if 400 < (clkAll a b ++ cldAll a b).length then 2 else 0

def clkUp (a b : Ctx) : Nat → List (Int × Int)
  | 0 => []
  | i + 1 => clkUp a b i ++ clkMiss a b i
theorem clkUp_all (a b : Ctx) : clkUp a b 4 = clkAll a b := rfl
theorem clkUp_le (a b : Ctx) {i j : Nat} (h : i ≤ j) : (clkUp a b i).length ≤ (clkUp a b j).length := by
  induction j with
  | zero => rw [show i = 0 by omega]; exact Nat.le_refl _
  | succ j ih =>
    by_cases e : i = j + 1
    · rw [e]; exact Nat.le_refl _
    · have := ih (by omega)
      simp only [clkUp, List.length_append]
      omega

theorem clk_at (c : Ctx) (i : Nat) (h : i < 4) (w : World) : (Instr.index 22 (clkv c.c0 c.c1 c.c2 c.c3) (.int .i64 (i : Int))).run Try.prog w = .ok (.int .i64 (c.at_ i)) w := by
  rcases (by omega : i = 0 ∨ i = 1 ∨ i = 2 ∨ i = 3) with e | e | e | e <;> subst e
  · exact clk0 _ _ _ _ w
  · exact clk1 _ _ _ _ w
  · exact clk2 _ _ _ _ w
  · exact clk3 _ _ _ _ w

set_option maxHeartbeats 1000000 in
set_option maxRecDepth 100000 in
theorem minus_bad (a b : Ctx) (A B : Option Addr) (k m : Nat) (w : World) (ra : Row w w.heap.size A (dcells a.cloud)) (la : a.cloud.length ≤ 9223372036854775807)
    (rb : Row w w.heap.size B (dcells b.cloud)) (lb : b.cloud.length ≤ 9223372036854775807) (h0 : twoI a b ≠ 0) :
    Calls Try.prog 33 #[cval a A k, cval b B m] w (DotsErr [] (twoI a b) w) := by
  have HBO := hid (fun w1 (hb : Below w.heap.size w w1) => both_any a b A B k m w1 (ra.step hb) la (rb.step hb) lb)
  have q2 : (twoI a b == 0) = false := by simpa using h0
  generalize twoI a b = I at *
  clear h0 ra rb
  obtain ⟨a0, a1, a2, a3, al⟩ := a
  obtain ⟨b0, b1, b2, b3, bl⟩ := b
  simp only [cval] at *
  go_enter Try.func33, Try.ntmps33
  go_wp2_with fail
  refine (HBO.out _ (by (repeat' (first | (with_reducible exact Below.refl _ _) | (with_reducible assumption) | (with_reducible refine below_drewN ?_ _) | (with_reducible refine Below.drew ?_) | (with_reducible refine Below.alloc ?_ ?_ _) | (with_reducible refine Below.setCell ?_ ?_ _) | (refine Below.trans ?_ (Below.mono (by assumption) ?_)) | go_size)))).mono ?_
  rintro e w1 ⟨rfl, hb1⟩
  go_wp2
  go_ret2
  exact ⟨_, rfl, World.ownsRow_nil _ _ _ _, (by refine Below.step' ?_ hb1; (repeat' (first | (with_reducible exact Below.refl _ _) | (with_reducible assumption) | (with_reducible refine below_drewN ?_ _) | (with_reducible refine Below.drew ?_) | (with_reducible refine Below.alloc ?_ ?_ _) | (with_reducible refine Below.setCell ?_ ?_ _) | (refine Below.trans ?_ (Below.mono (by assumption) ?_)) | go_size)))⟩

set_option maxHeartbeats 1000000 in
set_option maxRecDepth 100000 in
theorem minus_good (a b : Ctx) (A B : Option Addr) (k m : Nat) (w : World) (ra : Row w w.heap.size A (dcells a.cloud)) (la : a.cloud.length ≤ 400)
    (rb : Row w w.heap.size B (dcells b.cloud)) (lb : b.cloud.length ≤ 400) (ca : clkIn a) (cb : clkIn b) (h0 : twoI a b = 0) :
    Calls Try.prog 33 #[cval a A k, cval b B m] w (DotsErr (if 400 < (clkAll a b ++ cldAll a b).length then [] else (clkAll a b ++ cldAll a b).mergeSort dotLe) (if 400 < (clkAll a b ++ cldAll a b).length then 2 else 0) w) := by
  have HBO := hid (fun w1 (hb : Below w.heap.size w w1) => both_any a b A B k m w1 (ra.step hb) (by omega) (rb.step hb) (by omega))
  rw [h0] at HBO
  have HH := hid (fun w1 (hb : Below w.heap.size w w1) d => has_any b d B m w1 (rb.step hb) (by omega))
  obtain ⟨R, hR⟩ : ∃ R, R = (if 400 < (clkAll a b ++ cldAll a b).length then [] else (clkAll a b ++ cldAll a b).mergeSort dotLe) := ⟨_, rfl⟩
  obtain ⟨X, hX⟩ : ∃ X : Int, X = (if 400 < (clkAll a b ++ cldAll a b).length then 2 else 0) := ⟨_, rfl⟩
  rw [← hR, ← hX]
  have HR := hid hR
  have HX := hid hX
  have RA := hid ra
  have CA := hid ca
  have CB := hid cb
  have UA := hid (clkUp_all a b)
  have UL := hid (fun i (h : i ≤ 4) => clkUp_le a b h)
  have CELB := hid (fun n h0 h4 v => at_cell b n h0 h4 v)
  have CLKA := hid (clk_at a)
  clear ra rb ca cb hR hX h0
  obtain ⟨i0, hi0, hz0, hz1, hz2⟩ := info_parts info_dot
  go_enter Try.func33, Try.ntmps33
  simp only [cval]
  go_wp2_with fail
  refine (HBO.out _ (by (repeat' (first | (with_reducible exact Below.refl _ _) | (with_reducible assumption) | (with_reducible refine below_drewN ?_ _) | (with_reducible refine Below.drew ?_) | (with_reducible refine Below.alloc ?_ ?_ _) | (with_reducible refine Below.setCell ?_ ?_ _) | (refine Below.trans ?_ (Below.mono (by assumption) ?_)) | go_size)))).mono ?_
  rintro e W0 ⟨rfl, hb1⟩
  have hB0 : Below w.heap.size w W0 := (by refine Below.step' ?_ hb1; (repeat' (first | (with_reducible exact Below.refl _ _) | (with_reducible assumption) | (with_reducible refine below_drewN ?_ _) | (with_reducible refine Below.drew ?_) | (with_reducible refine Below.alloc ?_ ?_ _) | (with_reducible refine Below.setCell ?_ ?_ _) | (refine Below.trans ?_ (Below.mono (by assumption) ?_)) | go_size)))
  have hXa : Blk W0 w.heap.size (cbox a A k) 25 := Blk.step (by exact (Blk.new w _ _).alloc _) hb1
  have hXb : Blk W0 (w.heap.size + 1) (cbox b B m) 25 := Blk.step (by exact Blk.new' (w.alloc _) _ _ (by simp)) hb1
  have xa0 := hXa.cells.1
  have HB0 := hid hB0
  have HXA := hid hXa
  have HXB := hid hXb
  clear hB0 hXa hXb hb1
  simp only [cbox] at xa0
  go_wp2
  go_outline
  clear xa0
  go_loopw [7, 22] (fun s7 s22 wr => ∃ i : Nat, i ≤ 4 ∧ s22 = .int .i64 i ∧ (clkUp a b i).length ≤ 400 ∧ wr.ownsRow W0.heap.size 27 2 s7 (clkUp a b i).length (dcells (clkUp a b i)) ∧ Below W0.heap.size W0 wr) (fun _ s22 _ => 4 - (intOf s22).toNat)
  case atStart => exact ⟨0, by omega, rfl, by simp [clkUp], World.ownsRow_nil _ _ _ _, Below.refl _ _⟩
  case round =>
    obtain ⟨i, hi, rfl, hlen, hown, hbw⟩ := hrel
    by_cases hlt : i < 4
    · have xb := (HXB.out.step hbw).cells.1
      have heb := CELB.out i (by omega) (by omega) (.slice B b.cloud.length m)
      have eb : wr.cell? ⟨w.heap.size + 1, i, none⟩ = some (.int .i64 (b.at_ i)) := by rw [xb]; exact heb
      have ka := CLKA.out i hlt
      have ti : decide ((i : Int) < 4) = true := by simp; omega
      have ia := at_in CA.out i
      have ib := at_in CB.out i
      obtain ⟨ia0, ia1⟩ := ia
      obtain ⟨ib0, ib1⟩ := ib
      have HOWN := hid hown
      have HBW := hid hbw
      clear xb hown hbw
      obtain ⟨O, hO⟩ : ∃ O, O = clkUp a b i := ⟨_, rfl⟩
      obtain ⟨K, hK⟩ : ∃ K, K = (a.at_ i - b.at_ i).toNat := ⟨_, rfl⟩
      have hS : clkUp a b (i + 1) = O ++ clkDots a b i K := by rw [hO, hK]; rfl
      have hsuc : ∀ j, clkDots a b i (j + 1) = clkDots a b i j ++ (if hasB b ((i : Int), b.at_ i + 1 + (j : Int)) = true then [] else [((i : Int), b.at_ i + 1 + (j : Int))]) := fun j => clkDots_succ a b i j
      have hpre : ∀ j, j ≤ K → (O ++ clkDots a b i j).length ≤ (clkAll a b).length := by
        intro j hj
        obtain ⟨D, hD⟩ := clkDots_prefix a b i j K hj
        have h1 := UL.out (i + 1) (by omega)
        rw [hS, UA.out, hD] at h1
        simp only [List.length_append] at *
        omega
      rw [← hO] at HOWN hlen
      have HS := hid hS
      have HSUC := hid hsuc
      have HPRE := hid hpre
      clear hS hO hsuc hpre
      generalize a.at_ i = ai at *
      generalize b.at_ i = bi at *
      have hk1 : bi + 1 + (K : Int) ≤ 2199023255553 := by omega
      have HK := hid hK
      clear hK
      obtain ⟨wo, rfl⟩ : ∃ wo : World, wo = wr := ⟨_, rfl⟩
      go_wp2
      clear eb ka
      go_loopw [7, 10] (fun s7 s10 wr => ∃ j : Nat, j ≤ K ∧ s10 = .int .i64 (bi + 1 + j) ∧ (O ++ clkDots a b i j).length ≤ 400 ∧ wr.ownsRow W0.heap.size 27 2 s7 (O ++ clkDots a b i j).length (dcells (O ++ clkDots a b i j)) ∧ Below W0.heap.size W0 wr) (fun _ s10 _ => (bi + 1 + K - intOf s10).toNat)
      case atStart => exact ⟨0, by omega, by simp, by simpa [clkDots] using hlen, by simpa [clkDots] using HOWN.out, HBW.out⟩
      case round =>
        obtain ⟨j, hj, rfl, hl2, hown2, hb2⟩ := hrel
        have hB : Below w.heap.size w wr := Below.step' HB0.out hb2
        obtain ⟨A2, c2, rfl⟩ := own_form hown2
        obtain ⟨o2, ho2⟩ : ∃ o2, o2 = O ++ clkDots a b i j := ⟨_, rfl⟩
        rw [← ho2] at hown2 hl2 ⊢
        have HO2 := hid ho2
        clear ho2
        by_cases hjK : j < K
        · have t1 : bi + 1 + (j : Int) ≤ ai := by have := HK.out; omega
          have xb := (HXB.out.step hb2).cells.1
          have sb := (HXB.out.step hb2).lt
          have nb : (w.heap.size + 1 = wr.heap.size) = False := by simp; omega
          have HOWN2 := hid hown2
          have HB2 := hid hb2
          have HBB := hid hB
          have hP1 := HPRE.out (j + 1) (by omega)
          rw [HSUC.out j] at hP1
          clear hown2 hb2 hB
          cases hq : hasB b ((i : Int), bi + 1 + (j : Int))
          · have HQ := hid hq
            rw [hq, if_neg (by simp), ← List.append_assoc, ← HO2.out] at hP1
            have HP1 := hid hP1
            clear hP1
            go_wp2_with fail
            refine (HH.out _ (HBB.out.alloc (by omega) _) ((i : Int), bi + 1 + (j : Int))).mono ?_
            rw [hq]
            rintro e w5 ⟨rfl, hb5⟩
            have hB5 : Below wr.heap.size wr w5 := (by refine Below.step' ?_ hb5; (repeat' (first | (with_reducible exact Below.refl _ _) | (with_reducible assumption) | (with_reducible refine below_drewN ?_ _) | (with_reducible refine Below.drew ?_) | (with_reducible refine Below.alloc ?_ ?_ _) | (with_reducible refine Below.setCell ?_ ?_ _) | (refine Below.trans ?_ (Below.mono (by assumption) ?_)) | go_size)))
            have hx5 : Blk w5 wr.heap.size #[.int .i64 i, .int .i64 (bi + 1 + j)] 27 := (Blk.new wr _ _).step hb5
            have c5 := hx5.cells.1
            have HOWN5 := hid (own_later HOWN2.out hB5)
            have HB5 := hid (Below.step' HB2.out hB5)
            have hs5 := hB5.size
            have hs0 := (Below.step' HB2.out hB5).size
            clear xb hb5 hB5 hx5 hq
            by_cases h4 : o2.length + 1 ≤ 400
            all_goals go_wp2_with (at_builtin; refine wpList_append_own _ rfl _ _ 23 rfl W0.heap.size 27 i0 _ 2 16 Try.underlying23 hi0 hz0 hz1 hz2 rfl (by decide) _ _ _ rfl (HOWN5.out.alloc _) ⟨w5.heap.size, 0, none⟩ 1 1 (dcells [((i : Int), bi + 1 + (j : Int))]) rfl rfl (news_new w5 _ _ _ _ rfl) (dcells_one _) ?_ ?_ ?_ ?_; rotate_right; intro v6 w6 hown6 hg6 _; obtain ⟨A6, c6, rfl⟩ := own_form hown6; have HOWN6 := hid hown6; clear hown6; rotate_left; (simp only [maxLen]; omega); (omega); (simp; omega))
            · go_roundw
              case rel =>
                refine ⟨j + 1, by omega, by go_num, ?_, ?_, grown_below (HB5.out.alloc (by omega) _) hg6 (HOWN5.out.alloc _) (by simp; omega)⟩
                · rw [HSUC.out j, HQ.out, if_neg (by simp), ← List.append_assoc, ← HO2.out]; simpa using h4
                · rw [HSUC.out j, HQ.out, if_neg (by simp), ← List.append_assoc, ← HO2.out]
                  have := HOWN6.out
                  simpa [dcells] using this
              case measure => simp [intOf]; omega
            · go_ret2
              have hbig : 400 < (clkAll a b ++ cldAll a b).length := by have := HP1.out; simp only [List.length_append, List.length_cons, List.length_nil] at *; omega
              refine ⟨_, ret_vi (by rw [HX.out, if_pos hbig]), by rw [HR.out, if_pos hbig]; exact World.ownsRow_nil _ _ _ _, ?_⟩
              exact Below.step' HB0.out (grown_below (HB5.out.alloc (by omega) _) hg6 (HOWN5.out.alloc _) (by simp; omega))
          · have HQ := hid hq
            clear hP1
            go_wp2_with fail
            refine (HH.out _ (HBB.out.alloc (by omega) _) ((i : Int), bi + 1 + (j : Int))).mono ?_
            rw [hq]
            rintro e w5 ⟨rfl, hb5⟩
            have hB5 : Below wr.heap.size wr w5 := (by refine Below.step' ?_ hb5; (repeat' (first | (with_reducible exact Below.refl _ _) | (with_reducible assumption) | (with_reducible refine below_drewN ?_ _) | (with_reducible refine Below.drew ?_) | (with_reducible refine Below.alloc ?_ ?_ _) | (with_reducible refine Below.setCell ?_ ?_ _) | (refine Below.trans ?_ (Below.mono (by assumption) ?_)) | go_size)))
            have HOWN5 := hid (own_later HOWN2.out hB5)
            have HB5 := hid (Below.step' HB2.out hB5)
            clear xb hb5 hB5 hq
            go_wp2
            go_roundw
            case rel =>
              refine ⟨j + 1, by omega, by go_num, ?_, ?_, HB5.out⟩
              · rw [HSUC.out j, HQ.out, if_pos rfl, List.append_nil, ← HO2.out]; exact hl2
              · rw [HSUC.out j, HQ.out, if_pos rfl, List.append_nil, ← HO2.out]
                exact HOWN5.out
            case measure => simp [intOf]; omega
        · have e : j = K := by omega
          have t1 : ai < bi + 1 + (j : Int) := by have := HK.out; omega
          have HE := hid e
          have HOWN2 := hid hown2
          have HB2 := hid hb2
          clear hown2 hb2 hB e
          go_wp2
          go_roundw
          case rel =>
            refine ⟨i + 1, by omega, by go_num, ?_, ?_, HB2.out⟩
            · rw [HS.out, ← HE.out, ← HO2.out]; exact hl2
            · rw [HS.out, ← HE.out, ← HO2.out]; exact HOWN2.out
          case measure => simp [intOf]; omega
    · have e : i = 4 := by omega
      have HE := hid e
      rw [e, UA.out] at hlen hown
      clear e
      obtain ⟨A3, c3, rfl⟩ := own_form hown
      have xa := (HXA.out.step hbw).cells.1
      have e4 : wr.cell? ⟨w.heap.size, 4, none⟩ = some (.slice A a.cloud.length k) := by rw [xa]; rfl
      have hbo : Below w.heap.size w wr := Below.step' HB0.out hbw
      have hso := hbw.size
      have HOWN := hid hown
      have HBW := hid hbw
      clear hown hbw xa hbo
      obtain ⟨wo, rfl⟩ : ∃ wo : World, wo = wr := ⟨_, rfl⟩
      go_wp2
      clear e4
      go_loopw [7, 54] (fun s7 s54 wr => ∃ j : Nat, j ≤ a.cloud.length ∧ s54 = .int .i64 j ∧ wr.ownsRow W0.heap.size 27 2 s7 (clkAll a b ++ (a.cloud.take j).filter (fun d => !hasB b d)).length (dcells (clkAll a b ++ (a.cloud.take j).filter (fun d => !hasB b d))) ∧ Below W0.heap.size W0 wr) (fun _ s54 _ => a.cloud.length - (intOf s54).toNat)
      case atStart => exact ⟨0, by omega, rfl, by simpa using HOWN.out, HBW.out⟩
      case round =>
        obtain ⟨j, hj, rfl, hown4, hb4⟩ := hrel
        have hB : Below w.heap.size w wr := Below.step' HB0.out hb4
        have hl4 : (clkAll a b ++ (a.cloud.take j).filter (fun d => !hasB b d)).length ≤ 800 := by
          have := List.length_filter_le (fun d : Int × Int => !hasB b d) (a.cloud.take j)
          simp only [List.length_append, List.length_take] at *
          omega
        have hst : ∀ hj : j < a.cloud.length, clkAll a b ++ (a.cloud.take (j + 1)).filter (fun d => !hasB b d) = (clkAll a b ++ (a.cloud.take j).filter (fun d => !hasB b d)) ++ (if (!hasB b a.cloud[j]) = true then [a.cloud[j]] else []) := by
          intro hj
          rw [List.take_succ_eq_append_getElem hj, List.filter_append, List.append_assoc]
          congr 2
          rw [List.filter_cons, List.filter_nil]
        obtain ⟨o4, ho4⟩ : ∃ o4, o4 = clkAll a b ++ (a.cloud.take j).filter (fun d => !hasB b d) := ⟨_, rfl⟩
        rw [← ho4] at hown4 hl4 hst
        obtain ⟨A4, c4, rfl⟩ := own_form hown4
        have HO4 := hid ho4
        clear ho4
        by_cases hjl : j < a.cloud.length
        · have hst2 := hst hjl
          have HST := hid hst2
          clear hst hst2
          obtain ⟨b', off, hA, hb', h0, h1⟩ := (RA.out.step hB).dot hjl
          subst hA
          have xb := (HXB.out.step hb4).cells.1
          have sb := (HXB.out.step hb4).lt
          have nb : (w.heap.size + 1 = wr.heap.size) = False := by simp; omega
          have HOWN4 := hid hown4
          have HB4 := hid hb4
          have HBB := hid hB
          have hs0 := hb4.size
          clear hown4 hb4 hB
          generalize a.cloud[j] = d at *
          obtain ⟨d0, d1⟩ := d
          simp only at h0 h1
          cases hq : hasB b (d0, d1)
          · have HQ := hid hq
            go_wp2_with fail
            refine (HH.out _ (HBB.out.alloc (by omega) _) (d0, d1)).mono ?_
            rw [hq]
            rintro e w5 ⟨rfl, hb5⟩
            have hB5 : Below wr.heap.size wr w5 := (by refine Below.step' ?_ hb5; (repeat' (first | (with_reducible exact Below.refl _ _) | (with_reducible assumption) | (with_reducible refine below_drewN ?_ _) | (with_reducible refine Below.drew ?_) | (with_reducible refine Below.alloc ?_ ?_ _) | (with_reducible refine Below.setCell ?_ ?_ _) | (refine Below.trans ?_ (Below.mono (by assumption) ?_)) | go_size)))
            have hx5 : Blk w5 wr.heap.size #[.int .i64 d0, .int .i64 d1] 27 := (Blk.new wr _ _).step hb5
            have c5 := hx5.cells.1
            have HOWN5 := hid (own_later HOWN4.out hB5)
            have HB5 := hid (Below.step' HB4.out hB5)
            have hs5 := hB5.size
            clear xb hb5 hB5 hx5 hq h0 h1
            go_wp2_with (at_builtin; refine wpList_append_own _ rfl _ _ 23 rfl W0.heap.size 27 i0 _ 2 16 Try.underlying23 hi0 hz0 hz1 hz2 rfl (by decide) _ _ _ rfl (HOWN5.out.alloc _) ⟨w5.heap.size, 0, none⟩ 1 1 (dcells [(d0, d1)]) rfl rfl (news_new w5 _ _ _ _ rfl) (dcells_one _) ?_ ?_ ?_ ?_; rotate_right; intro v6 w6 hown6 hg6 _; rotate_left; (simp only [maxLen]; omega); (omega); (simp; omega))
            go_roundw
            case rel =>
              refine ⟨j + 1, by omega, by go_num, ?_, grown_below (HB5.out.alloc (by omega) _) hg6 (HOWN5.out.alloc _) (by simp; omega)⟩
              rw [HST.out, HQ.out, if_pos (by simp)]
              simpa [dcells] using hown6
            case measure => simp [intOf]; omega
          · have HQ := hid hq
            go_wp2_with fail
            refine (HH.out _ (HBB.out.alloc (by omega) _) (d0, d1)).mono ?_
            rw [hq]
            rintro e w5 ⟨rfl, hb5⟩
            have hB5 : Below wr.heap.size wr w5 := (by refine Below.step' ?_ hb5; (repeat' (first | (with_reducible exact Below.refl _ _) | (with_reducible assumption) | (with_reducible refine below_drewN ?_ _) | (with_reducible refine Below.drew ?_) | (with_reducible refine Below.alloc ?_ ?_ _) | (with_reducible refine Below.setCell ?_ ?_ _) | (refine Below.trans ?_ (Below.mono (by assumption) ?_)) | go_size)))
            have HOWN5 := hid (own_later HOWN4.out hB5)
            have HB5 := hid (Below.step' HB4.out hB5)
            clear xb hb5 hB5 hq h0 h1
            go_wp2
            go_roundw
            case rel =>
              refine ⟨j + 1, by omega, by go_num, ?_, HB5.out⟩
              rw [HST.out, HQ.out, if_neg (by simp), List.append_nil]
              exact HOWN5.out
            case measure => simp [intOf]; omega
        · have e4 : o4 = clkAll a b ++ cldAll a b := by rw [HO4.out, List.take_of_length_le (by omega)]; rfl
          rw [← e4] at HR HX
          have HOWN4 := hid hown4
          have HB4 := hid (Below.step' HB0.out hb4)
          have hs4 := hb4.size
          have hs0 := HB0.out.size
          clear hown4 hb4 hB hst e4
          by_cases h4 : 400 < o4.length
          · go_wp2
            go_ret2
            exact ⟨_, ret_vi (by rw [HX.out, if_pos h4]), by rw [HR.out, if_pos h4]; exact World.ownsRow_nil _ _ _ _, HB4.out⟩
          · have HSO := hid (sort_own o4 wr HOWN4.out (by omega))
            go_wp2_with fail
            refine HSO.out.mono ?_
            rintro e w7 ⟨rfl, hown7, hg7⟩
            have HOWN7 := hid hown7
            have HG7 := hid hg7
            clear hown7 hg7
            go_wp2
            go_ret2
            refine ⟨_, ret_vi (by rw [HX.out, if_neg h4]), ?_, ?_⟩
            · rw [HR.out, if_neg h4, List.length_mergeSort]
              exact own_base HOWN7.out hs0
            · exact HB4.out.grown HG7.out (by omega) (fun g e => by have := (HOWN4.out.lt g e).1; omega)
end Go.Proofs.Ytogegnikpjcpdaa
/- append onto an owned row from whatever row, nil or not: one law for plain regions, one for regions that draw. No program in sight. -/
namespace Go.Proofs.Ytogegnikpjcpdaa
set_option linter.unusedVariables false
open Go.RowKit

/-- What the table says of a slice type's elements. -/
structure Elem (P : Program) (t e : TypeId) (size bytes : Nat) : Prop where
  ht : P.underlying t = some (.slice e)
  hi : ∃ i z, P.info? e = some i ∧ i.zero = some z ∧ i.size = size ∧ i.bytes = bytes ∧ z.cells.size = size
  pos : 0 < size

theorem addr_add (b off j : Nat) : (⟨b, off, none⟩ : Addr).add j = ⟨b, off + j, none⟩ := by
  by_cases h : j = 0 <;> simp [Addr.add, h]

theorem Row.new (w : World) (cs : Array Value) (T : TypeId) {B : Nat} (hB : w.heap.size < B) : Row (w.alloc (.cells cs T)) B (some ⟨w.heap.size, 0, none⟩) cs.toList :=
  .inr ⟨w.heap.size, 0, rfl, hB, fun j u hu => by
    have h := (Blk.new w cs T).cells.1 j
    rw [Nat.zero_add, h]
    simpa using hu⟩
theorem Row.new' (w : World) (cs : Array Value) (T : TypeId) {h B : Nat} {xs : List Value} (e : w.heap.size = h) (hx : xs = cs.toList) (hB : h < B) : Row (w.alloc (.cells cs T)) B (some ⟨h, 0, none⟩) xs := by
  subst e hx; exact Row.new w cs T hB
theorem Row.drew {w : World} {B : Nat} {A : Option Addr} {xs : List Value} (h : Row w B A xs) : Row w.drew B A xs := h
theorem Row.drewN {w : World} {B : Nat} {A : Option Addr} {xs : List Value} (h : Row w B A xs) (n : Nat) : Row (w.drewN n) B A xs := h
theorem Row.alloc {w : World} {A : Option Addr} {xs : List Value} (h : Row w w.heap.size A xs) (o : Obj) : Row (w.alloc o) (w.alloc o).heap.size A xs := h.step ((Below.refl _ _).alloc (Nat.le_refl _) o)
theorem Row.grown {w w' : World} {B : Nat} {A : Option Addr} {xs : List Value} {row : Option Nat} (h : Row w B A xs) (hB : B ≤ w.heap.size) (hg : w.grownBy w' row) (hr : ∀ k, row = some k → B ≤ k) : Row w' B A xs :=
  h.below (C := B) ⟨hg.os, hg.tape, hg.output, hg.size, fun k hk => hg.block k (by omega) (fun e => by have := hr k e.symm; omega)⟩ (Nat.le_refl _)

theorem run_append_zero {P : Program} (w : World) (base : Nat) (t ty e : TypeId) (i : TypeInfo) (size : Nat) (ht : P.underlying t = some (.slice e)) (hi : P.info? e = some i)
    (v : Value) (n : Nat) (xs : List Value) (hown : w.ownsRow base e size v n xs) (A : Option Addr) (c : Nat) :
    (Builtin.append_ #[t, t] ty #[v, .slice A 0 c]).run P w = .ok v w := by
  cases A with
  | none =>
    rcases hown.2 with ⟨rfl, rfl⟩ | ⟨g, cap, cur, rfl, _, _, hnc, _⟩
    · simp [Builtin.append_, run_underlying ht, sizeOf, typeInfo, hi, Builtin.lenOf, Builtin.firstCells]
    · simp [Builtin.append_, run_underlying ht, sizeOf, typeInfo, hi, Builtin.lenOf, Builtin.firstCells, hnc, storeCells]
  | some a =>
    rcases hown.2 with ⟨rfl, rfl⟩ | ⟨g, cap, cur, rfl, _, _, hnc, _⟩
    · simp [Builtin.append_, run_underlying ht, sizeOf, typeInfo, hi, Builtin.lenOf, Builtin.firstCells, loadCells, loadCellsFrom]
    · simp [Builtin.append_, run_underlying ht, sizeOf, typeInfo, hi, Builtin.lenOf, Builtin.firstCells, hnc, storeCells, loadCells, loadCellsFrom]

theorem run_append_row {P : Program} (w : World) (base : Nat) (t ty e : TypeId) {size bytes : Nat} (El : Elem P t e size bytes)
    (v : Value) (n : Nat) (xs : List Value) (hown : w.ownsRow base e size v n xs)
    (A : Option Addr) (m c B : Nat) (news : List Value) (hl : news.length = m * size) (hnews : Row w B A news) (h1 : ∀ u ∈ news, u.oneCell' = true)
    (h63 : n + m ≤ maxLen) (hbytes : (n + m) * bytes ≤ 140737488355328) (hbase : base ≤ w.heap.size) :
    ∃ v' w', (Builtin.append_ #[t, t] ty #[v, .slice A m c]).run P w = .ok v' w' ∧ w'.ownsRow base e size v' (n + m) (xs ++ news) ∧ w.grownBy w' v.ownBlock ∧ (v'.ownBlock = v.ownBlock ∨ v'.ownBlock = some w.heap.size) := by
  obtain ⟨i, z, hi, hz, hsize, hby, hzs⟩ := El.hi
  rcases hnews with rfl | ⟨b, off, rfl, hb, hc⟩
  · have hm : m = 0 := by
      have hp := El.pos
      simp only [List.length_nil] at hl
      rcases Nat.mul_eq_zero.1 hl.symm with h | h <;> omega
    subst hm
    exact ⟨v, w, run_append_zero w base t ty e i size El.ht hi v n xs hown A c, by simpa using hown, ⟨rfl, rfl, rfl, Nat.le_refl _, fun _ _ _ => rfl⟩, .inl rfl⟩
  · obtain ⟨v', w', hr, h2, h3, h4, h5⟩ := run_append_own_at (P := P) w base t ty e i z size bytes El.ht hi hz hsize hby hzs El.pos v n xs hown ⟨b, off, none⟩ m c news hl (fun j u hu => by
      rw [addr_add]
      exact hc j u hu) h1 h63 hbytes hbase
    exact ⟨v', w', hr, h2, h3, h5⟩

theorem wp_append_row {P : Program} {w : World} {o : Oper} {a : Act} {K : Act → World → Prop} {Q : Exit → Act → World → Prop} {t e : TypeId} {size bytes : Nat} (El : Elem P t e size bytes) (s x : Operand)
    (ho : o.op = .call { callee := .builtin .append, args := #[s, x], argTypes := #[t, t] })
    (base : Nat) (v : Value) (n : Nat) (xs : List Value) (hs : a.eval s = v) (hown : w.ownsRow base e size v n xs)
    (A : Option Addr) (m c B : Nat) (news : List Value) (hx : a.eval x = .slice A m c) (hl : news.length = m * size) (hnews : Row w B A news) (h1 : ∀ u ∈ news, u.oneCell' = true)
    (h63 : n + m ≤ maxLen) (hbytes : (n + m) * bytes ≤ 140737488355328) (hbase : base ≤ w.heap.size)
    (h : ∀ v' w', w'.ownsRow base e size v' (n + m) (xs ++ news) → w.grownBy w' v.ownBlock → (v'.ownBlock = v.ownBlock ∨ v'.ownBlock = some w.heap.size) → K (a.put o.dst v') w') : o.wp P a w K Q := by
  obtain ⟨v', w', hr, h2, h3, h4⟩ := run_append_row (P := P) w base t o.type e El v n xs hown A m c B news hl hnews h1 h63 hbytes hbase
  unfold Oper.wp execOp
  simp only [ho, resolve, invoke, builtin, Sem.run_bind, Sem.run_pure, Result.andThen_ok, List.map_toArray, List.map_cons, List.map_nil, hs, hx, hr]
  exact h v' w' h2 h3 h4

theorem wpList_append_row {P : Program} {w : World} {ops : Array Oper} {rest : List Oper} {o : Oper} {a : Act} {Q : Exit → Act → World → Prop} {t e : TypeId} {size bytes : Nat} (El : Elem P t e size bytes) (hgd : o.guard = none) (s x : Operand)
    (ho : o.op = .call { callee := .builtin .append, args := #[s, x], argTypes := #[t, t] })
    (base : Nat) (v : Value) (n : Nat) (xs : List Value) (hs : a.eval s = v) (hown : w.ownsRow base e size v n xs)
    (A : Option Addr) (m c B : Nat) (news : List Value) (hx : a.eval x = .slice A m c) (hl : news.length = m * size) (hnews : Row w B A news) (h1 : ∀ u ∈ news, u.oneCell' = true)
    (h63 : n + m ≤ maxLen) (hbytes : (n + m) * bytes ≤ 140737488355328) (hbase : base ≤ w.heap.size)
    (h : ∀ v' w', w'.ownsRow base e size v' (n + m) (xs ++ news) → w.grownBy w' v.ownBlock → (v'.ownBlock = v.ownBlock ∨ v'.ownBlock = some w.heap.size) → wpList P ops Q rest (a.put o.dst v') w') :
    wpList P ops Q (o :: rest) a w :=
  wpList_plain hgd fun K hK => wp_append_row El s x ho base v n xs hs hown A m c B news hx hl hnews h1 h63 hbytes hbase fun v' w' a1 a2 a3 => hK _ _ (h v' w' a1 a2 a3)

theorem step_append_row {P : Program} {w : World} {ops : Array Oper} {o : Oper} {a : Act} {K : Act → World → Prop} {Q : Exit → Act → World → Prop} {E : Prop} {t e : TypeId} {size bytes : Nat} (El : Elem P t e size bytes) (hgd : o.guard = none) (s x : Operand)
    (ho : o.op = .call { callee := .builtin .append, args := #[s, x], argTypes := #[t, t] })
    (base : Nat) (v : Value) (n : Nat) (xs : List Value) (hs : a.eval s = v) (hown : w.ownsRow base e size v n xs)
    (A : Option Addr) (m c B : Nat) (news : List Value) (hx : a.eval x = .slice A m c) (hl : news.length = m * size) (hnews : Row w B A news) (h1 : ∀ u ∈ news, u.oneCell' = true)
    (h63 : n + m ≤ maxLen) (hbytes : (n + m) * bytes ≤ 140737488355328) (hbase : base ≤ w.heap.size)
    (h : ∀ v' w', w'.ownsRow base e size v' (n + m) (xs ++ news) → w.grownBy w' v.ownBlock → (v'.ownBlock = v.ownBlock ∨ v'.ownBlock = some w.heap.size) → K (a.put o.dst v') w') :
    if Region.wanted o (yielded ops a.tmps) = true then Oper.wp P o a w K Q else E := by
  have hw : Region.wanted o (yielded ops a.tmps) = true := by simp [Region.wanted, hgd]
  rw [if_pos hw]
  exact wp_append_row El s x ho base v n xs hs hown A m c B news hx hl hnews h1 h63 hbytes hbase h

/-- What is in the anchor world stands in a later one: for 'go_region_held3'. -/
theorem keepS {W w' : World} (h : Below W.heap.size W w') : (∀ b o, b < W.heap.size → w'.cell? ⟨b, o, none⟩ = W.cell? ⟨b, o, none⟩) ∧ Below W.heap.size W w' := ⟨(bcell h).1, h⟩
theorem own_ne_lo {w : World} {B n size : Nat} {T : TypeId} {v : Value} {xs : List Value} (h : w.ownsRow B T size v n xs) : ∀ b, b < B → (some b = v.ownBlock) = False :=
  fun b hb => eq_false fun e => Nat.lt_irrefl _ (Nat.lt_of_lt_of_le hb (h.lt b e.symm).1)
theorem own_ne_hi {w : World} {B n size : Nat} {T : TypeId} {v : Value} {xs : List Value} (h : w.ownsRow B T size v n xs) : ∀ b, w.heap.size ≤ b → (some b = v.ownBlock) = False :=
  fun b hb => eq_false fun e => Nat.lt_irrefl _ (Nat.lt_of_le_of_lt hb (h.lt b e.symm).2)
theorem cellsGrown {w w' : World} {row : Option Nat} (hg : w.grownBy w' row) :
    (∀ b o, b < w.heap.size → (some b = row) = False → w'.cell? ⟨b, o, none⟩ = w.cell? ⟨b, o, none⟩) ∧ (∀ b o, b < w.heap.size → (some b = row) = False → w'.frozen? ⟨b, o, none⟩ = w.frozen? ⟨b, o, none⟩) ∧ w.heap.size ≤ w'.heap.size :=
  ⟨fun b o hb hn => World.cell?_of_block (w := w) (hg.block b hb (fun e => by rw [hn] at e; exact e)), fun b o hb hn => World.frozen?_of_block (w := w) (hg.block b hb (fun e => by rw [hn] at e; exact e)), hg.size⟩
theorem below_grown {W w w' : World} {B n size : Nat} {T : TypeId} {v : Value} {xs : List Value} (h : Below W.heap.size W w) (hg : w.grownBy w' v.ownBlock) {w0 : World} (ho : w0.ownsRow B T size v n xs) (hB : W.heap.size ≤ B) : Below W.heap.size W w' :=
  h.grown hg h.size (fun g e => Nat.le_trans hB (ho.lt g e).1)
theorem Blk.grown' {w w' : World} {b : Nat} {cs : Array Value} {T : TypeId} {row : Option Nat} (h : Blk w b cs T) (hg : w.grownBy w' row) (hne : (some b = row) = False) : Blk w' b cs T := h.grown hg (fun e => by rw [hne] at e; exact e)
theorem lt_alloc (w : World) (o : Obj) : w.heap.size < (w.alloc o).heap.size := by simp
theorem Blk.five {w : World} {b : Nat} {x0 x1 x2 x3 x4 : Value} {T : TypeId} (h : Blk w b #[x0, x1, x2, x3, x4] T) :
    (w.cell? ⟨b, 0, none⟩ = some x0 ∧ w.cell? ⟨b, 1, none⟩ = some x1 ∧ w.cell? ⟨b, 2, none⟩ = some x2 ∧ w.cell? ⟨b, 3, none⟩ = some x3 ∧ w.cell? ⟨b, 4, none⟩ = some x4) ∧
    (w.frozen? ⟨b, 0, none⟩ = false ∧ w.frozen? ⟨b, 1, none⟩ = false ∧ w.frozen? ⟨b, 2, none⟩ = false ∧ w.frozen? ⟨b, 3, none⟩ = false ∧ w.frozen? ⟨b, 4, none⟩ = false) :=
  ⟨⟨h.cells.1 0, h.cells.1 1, h.cells.1 2, h.cells.1 3, h.cells.1 4⟩, h.cells.2 0, h.cells.2 1, h.cells.2 2, h.cells.2 3, h.cells.2 4⟩
theorem below_grown_nil {W w w' : World} (h : Below W.heap.size W w) (hg : w.grownBy w' (Value.slice none 0 0).ownBlock) : Below W.heap.size W w' :=
  h.grown hg h.size (fun g e => by simp [Value.ownBlock] at e)
theorem alloc_below {W w : World} (h : Below W.heap.size W w) (o : Obj) : Below W.heap.size W (w.alloc o) := h.alloc h.size o
theorem le_alloc (w : World) (o : Obj) : w.heap.size ≤ (w.alloc o).heap.size := by simp
end Go.Proofs.Ytogegnikpjcpdaa
/- dot.Join, viewref.Joined. -/
namespace Go.Proofs.Ytogegnikpjcpdaa
set_option linter.unusedVariables false
open Go.ChangeShapes Go.WideShapes Go.ChangeAt Go.RowKit

def joinX (a b : Ctx) : Ctx := if twoI a b ≠ 0 then ⟨0, 0, 0, 0, []⟩ else if 400 < (joinC a b).cloud.length then ⟨0, 0, 0, 0, []⟩ else joinC a b
def joinE (a b : Ctx) : Int := if twoI a b ≠ 0 then twoI a b else if 400 < (joinC a b).cloud.length then 2 else 0

abbrev set5 (w : World) (b : Nat) (y0 y1 y2 y3 y4 : Value) : World := ((((w.setCell ⟨b, 0, none⟩ y0).setCell ⟨b, 1, none⟩ y1).setCell ⟨b, 2, none⟩ y2).setCell ⟨b, 3, none⟩ y3).setCell ⟨b, 4, none⟩ y4
theorem Blk.set5 {w : World} {b : Nat} {x0 x1 x2 x3 x4 : Value} {T : TypeId} (h : Blk w b #[x0, x1, x2, x3, x4] T) (y0 y1 y2 y3 y4 : Value) : Blk (set5 w b y0 y1 y2 y3 y4) b #[y0, y1, y2, y3, y4] T :=
  ((((h.set 0 y0).set 1 y1).set 2 y2).set 3 y3).set 4 y4
theorem Row.set5 {w : World} {b lo : Nat} {A : Option Addr} {xs : List Value} (h : Row w w.heap.size A xs) (hn : NewAt lo A) (hb : b < lo) (y0 y1 y2 y3 y4 : Value) : Row (set5 w b y0 y1 y2 y3 y4) (set5 w b y0 y1 y2 y3 y4).heap.size A xs :=
  (((((h.setCell_new hn (a := ⟨b, 0, none⟩) hb y0).setCell_new hn (a := ⟨b, 1, none⟩) hb y1).setCell_new hn (a := ⟨b, 2, none⟩) hb y2).setCell_new hn (a := ⟨b, 3, none⟩) hb y3).setCell_new hn (a := ⟨b, 4, none⟩) hb y4).more (by simp)
theorem Below.set5 {B : Nat} {a w : World} {b : Nat} (h : Below B a w) (hb : B ≤ b) (y0 y1 y2 y3 y4 : Value) : Below B a (set5 w b y0 y1 y2 y3 y4) :=
  ((((h.setCell (p := ⟨b, 0, none⟩) hb y0).setCell (p := ⟨b, 1, none⟩) hb y1).setCell (p := ⟨b, 2, none⟩) hb y2).setCell (p := ⟨b, 3, none⟩) hb y3).setCell (p := ⟨b, 4, none⟩) hb y4

theorem el_dot : Elem Try.prog 23 27 2 16 := by
  obtain ⟨i0, hi0, hz0, hz1, hz2⟩ := info_parts info_dot
  exact ⟨Try.underlying23, ⟨i0, _, hi0, hz0, hz1, hz2, rfl⟩, by decide⟩

set_option maxHeartbeats 4000000 in
set_option maxRecDepth 100000 in
theorem join_good (a b : Ctx) (A B : Option Addr) (k m : Nat) (w : World) (ra : Row w w.heap.size A (dcells a.cloud)) (la : a.cloud.length ≤ 400)
    (rb : Row w w.heap.size B (dcells b.cloud)) (lb : b.cloud.length ≤ 400) (ha : okC a) (hb : okC b) (h0 : twoI a b = 0) :
    Calls Try.prog 31 #[cval a A k, cval b B m] w (CtxErr (joinX a b) (joinE a b) w) := by
  have HBO := hid (fun w1 (hb : Below w.heap.size w w1) => both_any a b A B k m w1 (ra.step hb) (by omega) (rb.step hb) (by omega))
  rw [h0] at HBO
  have RA := hid ra
  have RB := hid rb
  obtain ⟨JX, hJX⟩ : ∃ JX, JX = joinX a b := ⟨_, rfl⟩
  obtain ⟨JE, hJE⟩ : ∃ JE, JE = joinE a b := ⟨_, rfl⟩
  rw [← hJX, ← hJE]
  have HJX := hid (show JX = if 400 < (joinC a b).cloud.length then ⟨0, 0, 0, 0, []⟩ else joinC a b by rw [hJX]; unfold joinX; rw [if_neg (by simp [h0])])
  have HJE := hid (show JE = if 400 < (joinC a b).cloud.length then 2 else 0 by rw [hJE]; unfold joinE; rw [if_neg (by simp [h0])])
  clear hJX hJE
  have HRT := hid (show ∀ d ∈ a.cloud ++ b.cloud, rightB d.1 d.2 = true from fun d hd => by
    rcases List.mem_append.1 hd with h | h
    · exact (ha.2.1 d h).1
    · exact (hb.2.1 d h).1)
  have HCK := hid (show clkIn ⟨max a.c0 b.c0, max a.c1 b.c1, max a.c2 b.c2, max a.c3 b.c3, []⟩ by
    have h1 := ha.1
    have h2 := hb.1
    unfold clkIn at *
    simp only
    omega)
  clear ra rb h0 ha hb
  obtain ⟨a0, a1, a2, a3, al⟩ := a
  obtain ⟨b0, b1, b2, b3, bl⟩ := b
  simp only [cval] at *
  have i0 := clk0 b0 b1 b2 b3
  have i1 := clk1 b0 b1 b2 b3
  have i2 := clk2 b0 b1 b2 b3
  have i3 := clk3 b0 b1 b2 b3
  go_enter Try.func31, Try.ntmps31
  go_wp2_with fail
  refine (HBO.out _ (by (repeat' (first | (with_reducible exact Below.refl _ _) | (with_reducible assumption) | (with_reducible refine below_drewN ?_ _) | (with_reducible refine Below.drew ?_) | (with_reducible refine Below.alloc ?_ ?_ _) | (with_reducible refine Below.setCell ?_ ?_ _) | (refine Below.trans ?_ (Below.mono (by assumption) ?_)) | go_size)))).mono ?_
  rintro e w1 ⟨rfl, hb1⟩
  have hB1 : Below w.heap.size w w1 := (by refine Below.step' ?_ hb1; (repeat' (first | (with_reducible exact Below.refl _ _) | (with_reducible assumption) | (with_reducible refine below_drewN ?_ _) | (with_reducible refine Below.drew ?_) | (with_reducible refine Below.alloc ?_ ?_ _) | (with_reducible refine Below.setCell ?_ ?_ _) | (refine Below.trans ?_ (Below.mono (by assumption) ?_)) | go_size)))
  have hXa : Blk w1 w.heap.size (cbox ⟨a0, a1, a2, a3, al⟩ A k) 25 := Blk.step (by exact ((Blk.new w _ _).alloc _).alloc _) hb1
  have hXb : Blk w1 (w.heap.size + 1) (cbox ⟨b0, b1, b2, b3, bl⟩ B m) 25 := Blk.step (by exact (Blk.new' (w.alloc _) _ _ (by simp)).alloc _) hb1
  have hXr : Blk w1 (w.heap.size + 1 + 1) #[.int .i64 0, .int .i64 0, .int .i64 0, .int .i64 0, .slice none 0 0] 25 := Blk.step (by exact Blk.new' ((w.alloc _).alloc _) _ _ (by simp)) hb1
  obtain ⟨ca, fa, sa, na⟩ := hXa.all
  obtain ⟨cb, fb, sb, nb⟩ := hXb.all
  obtain ⟨cr, fr, sr, nr⟩ := hXr.all
  simp only [cbox] at ca cb
  have HB1 := hid hB1
  have HXA := hid hXa
  have HXB := hid hXb
  have HXR := hid hXr
  clear hb1 hB1 hXa hXb hXr
  go_wp2
  go_rounds 5
  go_upto_region 10 with fail
  obtain ⟨P, hP⟩ : ∃ P, P = w1.heap.size := ⟨_, rfl⟩
  obtain ⟨W2, hW2⟩ : ∃ W2 : World, W2 = w1.alloc (.cells #[.int .i64 (max a0 b0), .int .i64 (max a1 b1), .int .i64 (max a2 b2), .int .i64 (max a3 b3)] 22) := ⟨_, rfl⟩
  rw [← hW2, ← hP]
  have hB2 : Below w1.heap.size w1 W2 := by rw [hW2]; (repeat' (first | (with_reducible exact Below.refl _ _) | (with_reducible assumption) | (with_reducible refine below_drewN ?_ _) | (with_reducible refine Below.drew ?_) | (with_reducible refine Below.alloc ?_ ?_ _) | (with_reducible refine Below.setCell ?_ ?_ _) | (refine Below.trans ?_ (Below.mono (by assumption) ?_)) | go_size))
  have hXp : Blk W2 P #[.int .i64 (max a0 b0), .int .i64 (max a1 b1), .int .i64 (max a2 b2), .int .i64 (max a3 b3)] 22 := by rw [hW2, hP]; exact Blk.new _ _ _
  have hXa := HXA.out.step hB2
  have hXb := HXB.out.step hB2
  have hXr := HXR.out.step hB2
  have hBW := Below.step' HB1.out hB2
  have ra2 := RA.out.step hBW
  have rb2 := RB.out.step hBW
  have hsz := hBW.size
  clear ca fa sa na cb fb sb nb cr fr sr nr i0 i1 i2 i3 hW2 hP hB2
  have HCL := hid (fun w1 (hb : Below W2.heap.size W2 w1) => clone_any al A k w1 (ra2.step hb) (by omega))
  have HBL := hid (fun w1 (hb : Below W2.heap.size W2 w1) => rb2.step hb)
  obtain ⟨ca, fa, sa, na⟩ := hXa.all
  obtain ⟨cb, fb, sb, nb⟩ := hXb.all
  obtain ⟨cp, fp, sp, np⟩ := hXp.all
  simp only [cbox] at ca cb
  have HXA2 := hid hXa
  have HXB2 := hid hXb
  have HXR2 := hid hXr
  have HXP2 := hid hXp
  have HBW := hid hBW
  clear hXa hXb hXr hXp hBW ra2 rb2 HXA HXB HXR HB1
  have hlr : ∀ d ∈ al ++ bl, rightB d.1 d.2 = true := HRT.out
  have hlen : al.length + bl.length = (al ++ bl).length := by simp
  have hdc : dcells al ++ dcells bl = dcells (al ++ bl) := by simp [dcells]
  have hl8 : (al ++ bl).length ≤ 800 := by omega
  obtain ⟨c, hc⟩ : ∃ c, c = packL (max a0 b0) (max a1 b1) (max a2 b2) (max a3 b3) (al ++ bl) := ⟨_, rfl⟩
  have HPK := hid (fun w1 A6 c6 (hr : Row w1 w1.heap.size A6 (dcells (al ++ bl))) => packed_any (max a0 b0) (max a1 b1) (max a2 b2) (max a3 b3) (al ++ bl) A6 c6 w1 hr (by omega) HCK.out hlr)
  rw [← hc] at HPK
  have hjc : joinC ⟨a0, a1, a2, a3, al⟩ ⟨b0, b1, b2, b3, bl⟩ = c := hc.symm
  rw [hjc] at HJX HJE
  clear hjc
  have HC := hid hc
  have HLEN := hid hlen
  have HDC := hid hdc
  generalize al ++ bl = l at *
  clear hlr hlen hdc hc
  have hszw := HBW.out.size
  go_cut [10] from 34 to 41 (fun s10 wx => ∃ X A' kk, s10 = .pointer (some ⟨X, 0, none⟩) ∧ Blk wx X (cbox c A' kk) 25 ∧ Row wx wx.heap.size A' (dcells c.cloud) ∧ NewAt W2.heap.size A' ∧ Below W2.heap.size W2 wx)
  case first =>
    have hlb : (dcells bl).length = bl.length * 2 := by rw [dcells_len]; omega
    have hmx : al.length + bl.length ≤ maxLen := by simp only [maxLen]; omega
    have hby2 : (al.length + bl.length) * 16 ≤ 140737488355328 := by omega
    go_region_held3 (fun w' => (∀ b o, b < W2.heap.size → w'.cell? ⟨b, o, none⟩ = W2.cell? ⟨b, o, none⟩) ∧ Below W2.heap.size W2 w')
      ((go_split_ands; refine keepS ?_; first | (with_reducible assumption) | (with_reducible exact (Below.refl _ _).drew) | (with_reducible exact (alloc_below (Below.refl _ _) _).drew) | (with_reducible refine alloc_below ?_ _; with_reducible assumption) | (with_reducible refine Below.drew (alloc_below ?_ _); with_reducible assumption) | (with_reducible refine Below.set5 ?_ ?_ _ _ _ _ _; with_reducible assumption; first | exact Nat.le_refl _ | (refine Below.size (B := W2.heap.size) (w := W2) ?_; with_reducible assumption))))
      (first
        | (go_split_ands; go_at_call 69; refine (HCL.out _ (by with_reducible assumption)).mono ?_; rintro e w5 ⟨v5, rfl, hown5, hb5⟩; have hB5 := Below.step' (by with_reducible assumption : Below W2.heap.size W2 _) hb5; (try have x5 := Blk.step (show Blk (World.drew (W2.alloc (.cells #[.int .i64 0, .int .i64 0, .int .i64 0, .int .i64 0, .slice none 0 0] 25))) W2.heap.size #[.int .i64 0, .int .i64 0, .int .i64 0, .int .i64 0, .slice none 0 0] 25 from Blk.new W2 #[.int .i64 0, .int .i64 0, .int .i64 0, .int .i64 0, .slice none 0 0] 25) hb5))
        | (go_split_ands; go_at_call 64; refine (HPK.out _ A6 c6 (Row.of_own hown6)).mono ?_; rintro e w9 ⟨A', kk, rfl, hrow9, hb9, hnew9⟩; have hB9 := Below.step' (by with_reducible assumption : Below W2.heap.size W2 _) hb9; (try have x9 := Blk.step x6 hb9); (try have x9 := Blk.step (Blk.new w6 #[.int .i64 0, .int .i64 0, .int .i64 0, .int .i64 0, .slice none 0 0] 25) hb9); (try obtain ⟨⟨cx0, cx1, cx2, cx3, cx4⟩, fx0, fx1, fx2, fx3, fx4⟩ := x9.five))
        | (go_split_ands; go_at_call 64; refine (HPK.out _ A6 c6 (Row.of_own (World.ownsRow.alloc hown6 _))).mono ?_; rintro e w9 ⟨A', kk, rfl, hrow9, hb9, hnew9⟩; have hB9 := Below.step' (by with_reducible assumption : Below W2.heap.size W2 _) hb9; (try have x9 := Blk.step x6 hb9); (try have x9 := Blk.step (Blk.new w6 #[.int .i64 0, .int .i64 0, .int .i64 0, .int .i64 0, .slice none 0 0] 25) hb9); (try obtain ⟨⟨cx0, cx1, cx2, cx3, cx4⟩, fx0, fx1, fx2, fx3, fx4⟩ := x9.five))
        | (go_split_ands; refine step_append_row el_dot (by rfl) _ _ (by rfl) _ v5 al.length (dcells al) (by rfl) hown5 B bl.length m _ (dcells bl) (by rfl) hlb (HBL.out _ hB5) (dcells_one _) hmx hby2 hb5.size ?_; intro v6 w6 hown6 hg6 _; rw [HLEN.out, HDC.out] at hown6; obtain ⟨A6, c6, rfl⟩ := own_form hown6; have hB6 := below_grown (by with_reducible assumption : Below W2.heap.size W2 _) hg6 hown5 (by simp); (try have x6 := Blk.grown' x5 hg6 (own_ne_lo hown5 _ (lt_alloc W2 _))); (try have x6 := Blk.grown' (Blk.new w5 #[.int .i64 0, .int .i64 0, .int .i64 0, .int .i64 0, .slice none 0 0] 25) hg6 (own_ne_hi hown5 _ (Nat.le_refl _))))
        | (go_split_ands; refine step_append_row el_dot (by rfl) _ _ (by rfl) _ v5 al.length (dcells al) (by rfl) (World.ownsRow.alloc hown5 _) B bl.length m _ (dcells bl) (by rfl) hlb (HBL.out _ (alloc_below hB5 _)) (dcells_one _) hmx hby2 (Nat.le_trans hb5.size (le_alloc _ _)) ?_; intro v6 w6 hown6 hg6 _; rw [HLEN.out, HDC.out] at hown6; obtain ⟨A6, c6, rfl⟩ := own_form hown6; have hB6 := below_grown (by with_reducible assumption : Below W2.heap.size W2 _) hg6 hown5 (by simp); (try have x6 := Blk.grown' x5 hg6 (own_ne_lo hown5 _ (lt_alloc W2 _))); (try have x6 := Blk.grown' (Blk.new w5 #[.int .i64 0, .int .i64 0, .int .i64 0, .int .i64 0, .slice none 0 0] 25) hg6 (own_ne_hi hown5 _ (Nat.le_refl _)))))
    · go_wp2
      go_meet
      case rel => exact ⟨w9.heap.size, A', kk, rfl, Blk.new w9 _ _, hrow9.alloc _, fun b off q e => Nat.le_trans hB6.size (hnew9 b off q e), alloc_below hB9 _⟩
    · go_wp2
      go_meet
      case rel => exact ⟨w6.heap.size, A', kk, rfl, Blk.set5 x9 _ _ _ _ _, Row.set5 hrow9 hnew9 (lt_alloc w6 _) _ _ _ _ _, fun b off q e => Nat.le_trans (Nat.le_trans hB6.size (le_alloc _ _)) (hnew9 b off q e), Below.set5 hB9 hB6.size _ _ _ _ _⟩
    · go_wp2
      go_meet
      case rel => exact ⟨w5.heap.size, A', kk, rfl, Blk.set5 x9 _ _ _ _ _, Row.set5 hrow9 hnew9 (Nat.lt_of_lt_of_le (lt_alloc w5 _) hg6.size) _ _ _ _ _, fun b off q e => Nat.le_trans hB6.size (hnew9 b off q e), Below.set5 hB9 hB5.size _ _ _ _ _⟩
    · go_wp2
      go_meet
      case rel => exact ⟨W2.heap.size, A', kk, rfl, Blk.set5 x9 _ _ _ _ _, Row.set5 hrow9 hnew9 (Nat.lt_of_lt_of_le (Nat.lt_of_lt_of_le (lt_alloc W2 _) hb5.size) hg6.size) _ _ _ _ _, fun b off q e => Nat.le_trans hB6.size (hnew9 b off q e), Below.set5 hB9 (Nat.le_refl _) _ _ _ _ _⟩
  case rest =>
    obtain ⟨X, A', kk, rfl, hX, hrow, hnew, hb⟩ := hcut
    obtain ⟨wx, rfl⟩ : ∃ wx : World, wx = wc := ⟨_, rfl⟩
    have hR := HXR2.out.step hb
    obtain ⟨⟨cx0, cx1, cx2, cx3, cx4⟩, -⟩ := hX.five
    obtain ⟨⟨cr0, cr1, cr2, cr3, cr4⟩, fr0, fr1, fr2, fr3, fr4⟩ := hR.five
    have hBX := Below.step' HBW.out hb
    have hsz2 := HXR2.out.lt
    have hszx := hb.size
    by_cases h4 : 400 < c.cloud.length
    · have HR5 := hid (Blk.set5 hR (.int .i64 0) (.int .i64 0) (.int .i64 0) (.int .i64 0) (.slice none 0 0))
      have HB5 := hid (Below.set5 hBX (Nat.le_of_lt (show w.heap.size < w.heap.size + 1 + 1 by omega)) (.int .i64 0) (.int .i64 0) (.int .i64 0) (.int .i64 0) (.slice none 0 0))
      have hq : decide ((400 : Int) < (c.cloud.length : Int)) = true := by simp; omega
      clear hX hrow hnew hb hBX hR
      go_wp2
      obtain ⟨⟨q0, q1, q2, q3, q4⟩, -⟩ := HR5.out.five
      exact bodyPost_ret (v := .tuple #[cval ⟨0, 0, 0, 0, []⟩ none 0, .int .i64 2]) (by simp [results, Try.results31, go_sem, q0, q1, q2, q3, q4]) rfl ⟨none, 0, by rw [HJX.out, HJE.out, if_pos h4, if_pos h4], by rw [HJX.out, if_pos h4]; exact Row.nil, HB5.out, fun _ _ _ h => by cases h⟩
    · have HR5 := hid (Blk.set5 hR (.int .i64 c.c0) (.int .i64 c.c1) (.int .i64 c.c2) (.int .i64 c.c3) (.slice A' c.cloud.length kk))
      have HB5 := hid (Below.set5 hBX (Nat.le_of_lt (show w.heap.size < w.heap.size + 1 + 1 by omega)) (.int .i64 c.c0) (.int .i64 c.c1) (.int .i64 c.c2) (.int .i64 c.c3) (.slice A' c.cloud.length kk))
      have HROW := hid (Row.set5 hrow hnew hsz2 (.int .i64 c.c0) (.int .i64 c.c1) (.int .i64 c.c2) (.int .i64 c.c3) (.slice A' c.cloud.length kk))
      have hq : decide ((400 : Int) < (c.cloud.length : Int)) = false := by simp; omega
      have HN := hid hnew
      clear hX hrow hnew hb hBX hR
      go_wp2
      obtain ⟨⟨q0, q1, q2, q3, q4⟩, -⟩ := HR5.out.five
      exact bodyPost_ret (v := .tuple #[cval c A' kk, .int .i64 0]) (by simp [results, Try.results31, go_sem, q0, q1, q2, q3, q4]) rfl ⟨A', kk, by rw [HJX.out, HJE.out, if_neg h4, if_neg h4], by rw [HJX.out, if_neg h4]; exact HROW.out, HB5.out, fun b off q e => Nat.le_trans hszw (HN.out b off q e)⟩

set_option maxHeartbeats 1000000 in
set_option maxRecDepth 100000 in
theorem join_bad (a b : Ctx) (A B : Option Addr) (k m : Nat) (w : World) (ra : Row w w.heap.size A (dcells a.cloud)) (la : a.cloud.length ≤ 9223372036854775807)
    (rb : Row w w.heap.size B (dcells b.cloud)) (lb : b.cloud.length ≤ 9223372036854775807) (h0 : twoI a b ≠ 0) :
    Calls Try.prog 31 #[cval a A k, cval b B m] w (CtxErr ⟨0, 0, 0, 0, []⟩ (twoI a b) w) := by
  have HBO := hid (fun w1 (hb : Below w.heap.size w w1) => both_any a b A B k m w1 (ra.step hb) la (rb.step hb) lb)
  have q2 : (twoI a b == 0) = false := by simpa using h0
  generalize twoI a b = I at *
  clear h0 ra rb
  obtain ⟨a0, a1, a2, a3, al⟩ := a
  obtain ⟨b0, b1, b2, b3, bl⟩ := b
  simp only [cval] at *
  go_enter Try.func31, Try.ntmps31
  go_wp2_with fail
  refine (HBO.out _ (by (repeat' (first | (with_reducible exact Below.refl _ _) | (with_reducible assumption) | (with_reducible refine below_drewN ?_ _) | (with_reducible refine Below.drew ?_) | (with_reducible refine Below.alloc ?_ ?_ _) | (with_reducible refine Below.setCell ?_ ?_ _) | (refine Below.trans ?_ (Below.mono (by assumption) ?_)) | go_size)))).mono ?_
  rintro e w1 ⟨rfl, hb1⟩
  have hB1 : Below w.heap.size w w1 := (by refine Below.step' ?_ hb1; (repeat' (first | (with_reducible exact Below.refl _ _) | (with_reducible assumption) | (with_reducible refine below_drewN ?_ _) | (with_reducible refine Below.drew ?_) | (with_reducible refine Below.alloc ?_ ?_ _) | (with_reducible refine Below.setCell ?_ ?_ _) | (refine Below.trans ?_ (Below.mono (by assumption) ?_)) | go_size)))
  have hR : Blk w1 (w.heap.size + 1 + 1) #[.int .i64 0, .int .i64 0, .int .i64 0, .int .i64 0, .slice none 0 0] 25 := Blk.step (by exact Blk.new' ((w.alloc _).alloc _) _ _ (by simp)) hb1
  obtain ⟨⟨cr0, cr1, cr2, cr3, cr4⟩, fr0, fr1, fr2, fr3, fr4⟩ := hR.five
  have HR5 := hid (Blk.set5 hR (.int .i64 0) (.int .i64 0) (.int .i64 0) (.int .i64 0) (.slice none 0 0))
  have HB5 := hid (Below.set5 hB1 (Nat.le_of_lt (show w.heap.size < w.heap.size + 1 + 1 by omega)) (.int .i64 0) (.int .i64 0) (.int .i64 0) (.int .i64 0) (.slice none 0 0))
  clear hb1 hB1 hR
  go_wp2
  obtain ⟨⟨q0, q1, q2, q3, q4⟩, -⟩ := HR5.out.five
  exact bodyPost_ret (v := .tuple #[cval ⟨0, 0, 0, 0, []⟩ none 0, .int .i64 I]) (by simp [results, Try.results31, go_sem, q0, q1, q2, q3, q4]) rfl ⟨none, 0, rfl, Row.nil, HB5.out, fun _ _ _ h => by cases h⟩

theorem twoI_zero {a b : Ctx} : twoI a b = 0 ↔ checkI a = 0 ∧ checkI b = 0 := by
  unfold twoI
  by_cases h : checkI a = 0 <;> simp [h]

theorem join_any (a b : Ctx) (A B : Option Addr) (k m : Nat) (w : World) (ra : Row w w.heap.size A (dcells a.cloud)) (la : a.cloud.length ≤ 9223372036854775807)
    (rb : Row w w.heap.size B (dcells b.cloud)) (lb : b.cloud.length ≤ 9223372036854775807) :
    Calls Try.prog 31 #[cval a A k, cval b B m] w (CtxErr (joinX a b) (joinE a b) w) := by
  by_cases h0 : twoI a b = 0
  · obtain ⟨h1, h2⟩ := twoI_zero.1 h0
    obtain ⟨h3, h4⟩ := (checkI_iff a).1 h1
    obtain ⟨h5, h6⟩ := (checkI_iff b).1 h2
    exact join_good a b A B k m w ra h4 rb h6 h3 h5 h0
  · have e1 : joinX a b = ⟨0, 0, 0, 0, []⟩ := by unfold joinX; rw [if_pos h0]
    have e2 : joinE a b = twoI a b := by unfold joinE; rw [if_pos h0]
    rw [e1, e2]
    exact join_bad a b A B k m w ra la rb lb h0

theorem minus_any (a b : Ctx) (A B : Option Addr) (k m : Nat) (w : World) (ra : Row w w.heap.size A (dcells a.cloud)) (la : a.cloud.length ≤ 9223372036854775807)
    (rb : Row w w.heap.size B (dcells b.cloud)) (lb : b.cloud.length ≤ 9223372036854775807) :
    Calls Try.prog 33 #[cval a A k, cval b B m] w (DotsErr (minusX a b) (minusE a b) w) := by
  by_cases h0 : twoI a b = 0
  · obtain ⟨h1, h2⟩ := twoI_zero.1 h0
    obtain ⟨h3, h4⟩ := (checkI_iff a).1 h1
    obtain ⟨h5, h6⟩ := (checkI_iff b).1 h2
    have e1 : minusX a b = (if 400 < (clkAll a b ++ cldAll a b).length then [] else (clkAll a b ++ cldAll a b).mergeSort dotLe) := by unfold minusX; rw [if_neg (by simp [h0])]
    have e2 : minusE a b = (if 400 < (clkAll a b ++ cldAll a b).length then 2 else 0) := by unfold minusE; rw [if_neg (by simp [h0])]
    rw [e1, e2]
    exact minus_good a b A B k m w ra h4 rb h6 h3.1 h5.1 h0
  · have e1 : minusX a b = [] := by unfold minusX; rw [if_pos h0]
    have e2 : minusE a b = twoI a b := by unfold minusE; rw [if_pos h0]
    rw [e1, e2]
    exact minus_bad a b A B k m w ra la rb lb h0
end Go.Proofs.Ytogegnikpjcpdaa
/- viewref.Joined. -/
namespace Go.Proofs.Ytogegnikpjcpdaa
set_option linter.unusedVariables false
open Go.ChangeShapes Go.WideShapes Go.ChangeAt Go.RowKit

def mxA (a b : Ctx) (i : Nat) : Array Value := #[.int .i64 (if 0 < i then max a.c0 b.c0 else a.c0), .int .i64 (if 1 < i then max a.c1 b.c1 else a.c1), .int .i64 (if 2 < i then max a.c2 b.c2 else a.c2), .int .i64 (if 3 < i then max a.c3 b.c3 else a.c3)]
theorem mx_get (a b : Ctx) (i : Nat) (h : i < 4) : (mxA a b i)[i]? = some (.int .i64 (a.at_ i)) := by
  rcases (by omega : i = 0 ∨ i = 1 ∨ i = 2 ∨ i = 3) with e | e | e | e <;> subst e <;> rfl
theorem mx_set (a b : Ctx) (i : Nat) (h : i < 4) (hc : a.at_ i < b.at_ i) : (mxA a b i).setIfInBounds i (.int .i64 (b.at_ i)) = mxA a b (i + 1) := by
  rcases (by omega : i = 0 ∨ i = 1 ∨ i = 2 ∨ i = 3) with e | e | e | e <;> subst e <;> simp [mxA, Ctx.at_] at * <;> omega
theorem mx_keep (a b : Ctx) (i : Nat) (h : i < 4) (hc : ¬ a.at_ i < b.at_ i) : mxA a b i = mxA a b (i + 1) := by
  rcases (by omega : i = 0 ∨ i = 1 ∨ i = 2 ∨ i = 3) with e | e | e | e <;> subst e <;> simp [mxA, Ctx.at_] at * <;> omega
theorem mx_zero (a b : Ctx) : mxA a b 0 = #[.int .i64 a.c0, .int .i64 a.c1, .int .i64 a.c2, .int .i64 a.c3] := rfl
theorem mx_four (a b : Ctx) : mxA a b 4 = #[.int .i64 (max a.c0 b.c0), .int .i64 (max a.c1 b.c1), .int .i64 (max a.c2 b.c2), .int .i64 (max a.c3 b.c3)] := rfl

set_option maxHeartbeats 4000000 in
set_option maxRecDepth 100000 in
theorem joined_any (a b : Ctx) (A B : Option Addr) (k m : Nat) (w : World) (ra : Row w w.heap.size A (dcells a.cloud)) (la : a.cloud.length ≤ 400)
    (rb : Row w w.heap.size B (dcells b.cloud)) (lb : b.cloud.length ≤ 400) (ha : okC a) (hb : okC b) :
    Calls Try.prog 29 #[cval a A k, cval b B m] w (CtxErr (if 400 < (joinC a b).cloud.length then ⟨0, 0, 0, 0, []⟩ else joinC a b) (if 400 < (joinC a b).cloud.length then 2 else 0) w) := by
  have RA := hid ra
  have RB := hid rb
  obtain ⟨JX, hJX⟩ : ∃ JX, JX = (if 400 < (joinC a b).cloud.length then ⟨0, 0, 0, 0, []⟩ else joinC a b) := ⟨_, rfl⟩
  obtain ⟨JE, hJE⟩ : ∃ JE : Int, JE = (if 400 < (joinC a b).cloud.length then 2 else 0) := ⟨_, rfl⟩
  rw [← hJX, ← hJE]
  have HJX := hid hJX
  have HJE := hid hJE
  clear hJX hJE
  have HRT := hid (show ∀ d ∈ a.cloud ++ b.cloud, rightB d.1 d.2 = true from fun d hd => by
    rcases List.mem_append.1 hd with h | h
    · exact (ha.2.1 d h).1
    · exact (hb.2.1 d h).1)
  have HCK := hid (show clkIn ⟨max a.c0 b.c0, max a.c1 b.c1, max a.c2 b.c2, max a.c3 b.c3, []⟩ by
    have h1 := ha.1
    have h2 := hb.1
    unfold clkIn at *
    simp only
    omega)
  have MG := hid (mx_get a b)
  have MS := hid (mx_set a b)
  have MK := hid (mx_keep a b)
  have M0 := hid (mx_zero a b)
  have M4 := hid (mx_four a b)
  have CELB := hid (fun n h0 h4 v => at_cell b n h0 h4 v)
  clear ra rb ha hb
  go_enter Try.func29, Try.ntmps29
  simp only [cval]
  go_wp2
  obtain ⟨P, hP⟩ : ∃ P, P = w.heap.size + 1 + 1 + 1 := ⟨_, rfl⟩
  rw [← hP, ← M0.out]
  obtain ⟨W0, hW0⟩ : ∃ W0 : World, W0 = (((w.alloc (.cells (cbox a A k) 25)).alloc (.cells (cbox b B m) 25)).alloc (.cells #[.int .i64 0, .int .i64 0, .int .i64 0, .int .i64 0, .slice none 0 0] 25)).alloc (.cells (mxA a b 0) 22) := ⟨_, rfl⟩
  simp only [cbox] at hW0
  rw [← hW0]
  have hB0 : Below w.heap.size w W0 := by rw [hW0]; (repeat' (first | (with_reducible exact Below.refl _ _) | (with_reducible assumption) | (with_reducible refine below_drewN ?_ _) | (with_reducible refine Below.drew ?_) | (with_reducible refine Below.alloc ?_ ?_ _) | (with_reducible refine Below.setCell ?_ ?_ _) | (refine Below.trans ?_ (Below.mono (by assumption) ?_)) | go_size))
  have hXa : Blk W0 w.heap.size (cbox a A k) 25 := by rw [hW0]; exact (((Blk.new w _ _).alloc _).alloc _).alloc _
  have hXb : Blk W0 (w.heap.size + 1) (cbox b B m) 25 := by rw [hW0]; exact ((Blk.new' (w.alloc _) _ _ (by simp)).alloc _).alloc _
  have hXr : Blk W0 (w.heap.size + 1 + 1) #[.int .i64 0, .int .i64 0, .int .i64 0, .int .i64 0, .slice none 0 0] 25 := by rw [hW0]; exact (Blk.new' ((w.alloc _).alloc _) _ _ (by simp)).alloc _
  have hXp : Blk W0 P (mxA a b 0) 22 := by rw [hW0]; exact Blk.new' (((w.alloc _).alloc _).alloc _) _ _ (by simp [hP])
  have hPl : w.heap.size + 1 + 1 < P := by omega
  have HB0 := hid hB0
  have HXA := hid hXa
  have HXB := hid hXb
  have HXR := hid hXr
  have HXP := hid hXp
  clear hW0 hB0 hXa hXb hXr hXp hP
  go_loopw [7] (fun s7 wr => ∃ i : Nat, i ≤ 4 ∧ s7 = .int .i64 i ∧ Blk wr P (mxA a b i) 22 ∧ Below P W0 wr) (fun s7 _ => 4 - (intOf s7).toNat)
  case atStart => exact ⟨0, by omega, rfl, HXP.out, Below.refl _ _⟩
  case round =>
    obtain ⟨i, hi, rfl, hp, hbw⟩ := hrel
    by_cases hlt : i < 4
    · have xb := (HXB.out.thru hbw (by omega)).cells.1
      have heb := CELB.out i (by omega) (by omega) (.slice B b.cloud.length m)
      have eb : wr.cell? ⟨w.heap.size + 1, i, none⟩ = some (.int .i64 (b.at_ i)) := by rw [xb]; exact heb
      have ep : wr.cell? ⟨P, i, none⟩ = some (.int .i64 (a.at_ i)) := by rw [hp.cells.1]; exact MG.out i hlt
      have fp := hp.cells.2 i
      have ti : decide ((i : Int) < 4) = true := by simp; omega
      have ti2 : (i : Int) < 4 := by omega
      have HP := hid hp
      have HBW := hid hbw
      have np : ¬ (w.heap.size + 1 = P) := by omega
      clear xb heb hp hbw
      by_cases hc : a.at_ i < b.at_ i
      · have tc : decide (a.at_ i < b.at_ i) = true := by simpa using hc
        have HS := hid (MS.out i hlt hc)
        go_wp2
        refine wp_region_quiet_lit (by kernel_rfl) (by kernel_rfl) ?_
        repeat (any_goals ((with_reducible refine wpQuiet_step (fun K hK => ?_)); go_simp; first | (with_reducible refine hK _ ?_; clear hK K) | ((with_reducible apply Exists.intro); (with_reducible refine ⟨fun _ => ?_, hK _ ?_⟩); (fail); clear hK K) | ((with_reducible refine (if_neg ?_).mpr (hK _ ?_)); (decide); clear hK K) | (split <;> (with_reducible refine hK _ ?_; clear hK K))))
        all_goals ((with_reducible refine wpQuiet_nil ?_); intro _ hw'; obtain ⟨nq, hw''⟩ := hw'; subst hw'')
        go_wp2
        go_roundw
        case rel =>
          refine ⟨i + 1, by omega, by go_num, ?_, ?_⟩
          · rw [← HS.out]; exact (HP.out.drewN nq).set i _
          · exact (below_drewN HBW.out nq).setCell (Nat.le_refl _) _
        case measure => simp [intOf]; omega
      · have tc : decide (a.at_ i < b.at_ i) = false := by simpa using hc
        have HS := hid (MK.out i hlt (by omega))
        go_wp2
        refine wp_region_quiet_lit (by kernel_rfl) (by kernel_rfl) ?_
        repeat (any_goals ((with_reducible refine wpQuiet_step (fun K hK => ?_)); go_simp; first | (with_reducible refine hK _ ?_; clear hK K) | ((with_reducible apply Exists.intro); (with_reducible refine ⟨fun _ => ?_, hK _ ?_⟩); (fail); clear hK K) | ((with_reducible refine (if_neg ?_).mpr (hK _ ?_)); (decide); clear hK K) | (split <;> (with_reducible refine hK _ ?_; clear hK K))))
        all_goals ((with_reducible refine wpQuiet_nil ?_); intro _ hw'; obtain ⟨nq, hw''⟩ := hw'; subst hw'')
        go_wp2
        go_roundw
        case rel =>
          refine ⟨i + 1, by omega, by go_num, ?_, ?_⟩
          · rw [← HS.out]; exact HP.out.drewN nq
          · exact below_drewN HBW.out nq
        case measure => simp [intOf]; omega
    · have e : i = 4 := by omega
      rw [e, M4.out] at hp
      obtain ⟨W2, rfl⟩ : ∃ W2 : World, W2 = wr := ⟨_, rfl⟩
      have hXa := HXA.out.thru hbw (by omega)
      have hXb := HXB.out.thru hbw (by omega)
      have HXR2 := hid (HXR.out.thru hbw (by omega))
      have hBW : Below w.heap.size w W2 := HB0.out.trans (hbw.mono (by omega))
      have ra2 := RA.out.step hBW
      have rb2 := RB.out.step hBW
      have HAL := hid (fun w1 (hb : Below W2.heap.size W2 w1) => ra2.step hb)
      have HBL := hid (fun w1 (hb : Below W2.heap.size W2 w1) => rb2.step hb)
      obtain ⟨ca, fa, sa, na⟩ := hXa.all
      obtain ⟨cb, fb, sb, nb⟩ := hXb.all
      obtain ⟨cp, fp, sp, np⟩ := hp.all
      simp only [cbox] at ca cb
      have HBW := hid hBW
      have ti : decide ((i : Int) < 4) = false := by simp; omega
      clear hXa hXb hp hBW hbw ra2 rb2 e
      go_upto_region 7 with fail
      clear ti
      have hlr : ∀ d ∈ a.cloud ++ b.cloud, rightB d.1 d.2 = true := HRT.out
      have hlen : a.cloud.length + b.cloud.length = (a.cloud ++ b.cloud).length := by simp
      have hdc : dcells a.cloud ++ dcells b.cloud = dcells (a.cloud ++ b.cloud) := by simp [dcells]
      have hl8 : (a.cloud ++ b.cloud).length ≤ 800 := by omega
      obtain ⟨c, hc⟩ : ∃ c, c = packL (max a.c0 b.c0) (max a.c1 b.c1) (max a.c2 b.c2) (max a.c3 b.c3) (a.cloud ++ b.cloud) := ⟨_, rfl⟩
      have HPK := hid (fun w1 A6 c6 (hr : Row w1 w1.heap.size A6 (dcells (a.cloud ++ b.cloud))) => Rpacked_any (max a.c0 b.c0) (max a.c1 b.c1) (max a.c2 b.c2) (max a.c3 b.c3) (a.cloud ++ b.cloud) A6 c6 w1 hr (by omega) HCK.out hlr)
      rw [← hc] at HPK
      have hjc : joinC a b = c := hc.symm
      rw [hjc] at HJX HJE
      clear hjc
      have HC := hid hc
      have HLEN := hid hlen
      have HDC := hid hdc
      generalize a.cloud ++ b.cloud = l at *
      clear hlr hlen hdc hc
      have hszw := HBW.out.size
      go_cut [8] from 29 to 36 (fun s8 wx => ∃ X A' kk, s8 = .pointer (some ⟨X, 0, none⟩) ∧ Blk wx X (cbox c A' kk) 25 ∧ Row wx wx.heap.size A' (dcells c.cloud) ∧ NewAt W2.heap.size A' ∧ Below W2.heap.size W2 wx)
      case first =>
        have hlb : (dcells b.cloud).length = b.cloud.length * 2 := by rw [dcells_len]; omega
        have hmx : a.cloud.length + b.cloud.length ≤ maxLen := by simp only [maxLen]; omega
        have hby2 : (a.cloud.length + b.cloud.length) * 16 ≤ 140737488355328 := by omega
        have hla : (dcells a.cloud).length = a.cloud.length * 2 := by rw [dcells_len]; omega
        have hmx0 : 0 + a.cloud.length ≤ maxLen := by simp only [maxLen]; omega
        have hby0 : (0 + a.cloud.length) * 16 ≤ 140737488355328 := by omega
        have tok1 : True := trivial
        go_region_held3 (fun w' => (∀ b o, b < W2.heap.size → w'.cell? ⟨b, o, none⟩ = W2.cell? ⟨b, o, none⟩) ∧ Below W2.heap.size W2 w')
          ((go_split_ands; refine keepS ?_; first | (with_reducible assumption) | (with_reducible exact (Below.refl _ _).drew) | (with_reducible exact (alloc_below (Below.refl _ _) _).drew) | (with_reducible refine alloc_below ?_ _; with_reducible assumption) | (with_reducible refine Below.drew (alloc_below ?_ _); with_reducible assumption) | (with_reducible refine Below.set5 ?_ ?_ _ _ _ _ _; with_reducible assumption; first | exact Nat.le_refl _ | (refine Below.size (B := W2.heap.size) (w := W2) ?_; with_reducible assumption))))
          (first
            | (have _t := tok1; go_split_ands; refine step_append_row el_dot (by rfl) _ _ (by rfl) _ (.slice none 0 0) 0 [] (by rfl) (World.ownsRow_nil _ _ _ _) A a.cloud.length k _ (dcells a.cloud) (by rfl) hla (HAL.out _ (by with_reducible assumption)) (dcells_one _) hmx0 hby0 (Nat.le_refl _) ?_; clear tok1; intro v5 w5 hown5 hg5 _; rw [Nat.zero_add, List.nil_append] at hown5; have hB5 := below_grown_nil (by with_reducible assumption : Below W2.heap.size W2 _) hg5; have hs5 := hg5.size; (try have x5 := Blk.grown' (show Blk (World.drew (W2.alloc (.cells #[.int .i64 0, .int .i64 0, .int .i64 0, .int .i64 0, .slice none 0 0] 25))) W2.heap.size #[.int .i64 0, .int .i64 0, .int .i64 0, .int .i64 0, .slice none 0 0] 25 from Blk.new W2 #[.int .i64 0, .int .i64 0, .int .i64 0, .int .i64 0, .slice none 0 0] 25) hg5 (by simp [Value.ownBlock])))
            | (go_split_ands; go_at_call 20; refine (HPK.out _ A6 c6 (Row.of_own hown6)).mono ?_; rintro e w9 ⟨A', kk, rfl, hrow9, hb9, hnew9⟩; have hB9 := Below.step' (by with_reducible assumption : Below W2.heap.size W2 _) hb9; (try have x9 := Blk.step x6 hb9); (try have x9 := Blk.step (Blk.new w6 #[.int .i64 0, .int .i64 0, .int .i64 0, .int .i64 0, .slice none 0 0] 25) hb9); (try obtain ⟨⟨cx0, cx1, cx2, cx3, cx4⟩, fx0, fx1, fx2, fx3, fx4⟩ := x9.five))
            | (go_split_ands; go_at_call 20; refine (HPK.out _ A6 c6 (Row.of_own (World.ownsRow.alloc hown6 _))).mono ?_; rintro e w9 ⟨A', kk, rfl, hrow9, hb9, hnew9⟩; have hB9 := Below.step' (by with_reducible assumption : Below W2.heap.size W2 _) hb9; (try have x9 := Blk.step x6 hb9); (try have x9 := Blk.step (Blk.new w6 #[.int .i64 0, .int .i64 0, .int .i64 0, .int .i64 0, .slice none 0 0] 25) hb9); (try obtain ⟨⟨cx0, cx1, cx2, cx3, cx4⟩, fx0, fx1, fx2, fx3, fx4⟩ := x9.five))
            | (go_split_ands; refine step_append_row el_dot (by rfl) _ _ (by rfl) _ v5 a.cloud.length (dcells a.cloud) (by rfl) hown5 B b.cloud.length m _ (dcells b.cloud) (by rfl) hlb (HBL.out _ hB5) (dcells_one _) hmx hby2 hs5 ?_; intro v6 w6 hown6 hg6 _; rw [HLEN.out, HDC.out] at hown6; obtain ⟨A6, c6, rfl⟩ := own_form hown6; have hB6 := below_grown (by with_reducible assumption : Below W2.heap.size W2 _) hg6 hown5 (by simp); (try have x6 := Blk.grown' x5 hg6 (own_ne_lo hown5 _ (lt_alloc W2 _))); (try have x6 := Blk.grown' (Blk.new w5 #[.int .i64 0, .int .i64 0, .int .i64 0, .int .i64 0, .slice none 0 0] 25) hg6 (own_ne_hi hown5 _ (Nat.le_refl _))))
            | (go_split_ands; refine step_append_row el_dot (by rfl) _ _ (by rfl) _ v5 a.cloud.length (dcells a.cloud) (by rfl) (World.ownsRow.alloc hown5 _) B b.cloud.length m _ (dcells b.cloud) (by rfl) hlb (HBL.out _ (alloc_below hB5 _)) (dcells_one _) hmx hby2 (Nat.le_trans hs5 (le_alloc _ _)) ?_; intro v6 w6 hown6 hg6 _; rw [HLEN.out, HDC.out] at hown6; obtain ⟨A6, c6, rfl⟩ := own_form hown6; have hB6 := below_grown (by with_reducible assumption : Below W2.heap.size W2 _) hg6 hown5 (by simp); (try have x6 := Blk.grown' x5 hg6 (own_ne_lo hown5 _ (lt_alloc W2 _))); (try have x6 := Blk.grown' (Blk.new w5 #[.int .i64 0, .int .i64 0, .int .i64 0, .int .i64 0, .slice none 0 0] 25) hg6 (own_ne_hi hown5 _ (Nat.le_refl _)))))
        · go_wp2
          go_meet
          case rel => exact ⟨w9.heap.size, A', kk, rfl, Blk.new w9 _ _, hrow9.alloc _, fun b off q e => Nat.le_trans hB6.size (hnew9 b off q e), alloc_below hB9 _⟩
        · go_wp2
          go_meet
          case rel => exact ⟨w6.heap.size, A', kk, rfl, Blk.set5 x9 _ _ _ _ _, Row.set5 hrow9 hnew9 (lt_alloc w6 _) _ _ _ _ _, fun b off q e => Nat.le_trans (Nat.le_trans hB6.size (le_alloc _ _)) (hnew9 b off q e), Below.set5 hB9 hB6.size _ _ _ _ _⟩
        · go_wp2
          go_meet
          case rel => exact ⟨w5.heap.size, A', kk, rfl, Blk.set5 x9 _ _ _ _ _, Row.set5 hrow9 hnew9 (Nat.lt_of_lt_of_le (lt_alloc w5 _) hg6.size) _ _ _ _ _, fun b off q e => Nat.le_trans hB6.size (hnew9 b off q e), Below.set5 hB9 hB5.size _ _ _ _ _⟩
        · go_wp2
          go_meet
          case rel => exact ⟨W2.heap.size, A', kk, rfl, Blk.set5 x9 _ _ _ _ _, Row.set5 hrow9 hnew9 (Nat.lt_of_lt_of_le (Nat.lt_of_lt_of_le (lt_alloc W2 _) hs5) hg6.size) _ _ _ _ _, fun b off q e => Nat.le_trans hB6.size (hnew9 b off q e), Below.set5 hB9 (Nat.le_refl _) _ _ _ _ _⟩
      case rest =>
        obtain ⟨X, A', kk, rfl, hX, hrow, hnew, hb⟩ := hcut
        obtain ⟨wx, rfl⟩ : ∃ wx : World, wx = wc := ⟨_, rfl⟩
        have hR := HXR2.out.step hb
        obtain ⟨⟨cx0, cx1, cx2, cx3, cx4⟩, -⟩ := hX.five
        obtain ⟨⟨cr0, cr1, cr2, cr3, cr4⟩, fr0, fr1, fr2, fr3, fr4⟩ := hR.five
        have hBX := Below.step' HBW.out hb
        have hsz2 := HXR2.out.lt
        have hszx := hb.size
        by_cases h4 : 400 < c.cloud.length
        · have HR5 := hid (Blk.set5 hR (.int .i64 0) (.int .i64 0) (.int .i64 0) (.int .i64 0) (.slice none 0 0))
          have HB5 := hid (Below.set5 hBX (Nat.le_of_lt (show w.heap.size < w.heap.size + 1 + 1 by omega)) (.int .i64 0) (.int .i64 0) (.int .i64 0) (.int .i64 0) (.slice none 0 0))
          have hq : decide ((400 : Int) < (c.cloud.length : Int)) = true := by simp; omega
          clear hX hrow hnew hb hBX hR
          go_wp2
          obtain ⟨⟨q0, q1, q2, q3, q4⟩, -⟩ := HR5.out.five
          exact bodyPost_ret (v := .tuple #[cval ⟨0, 0, 0, 0, []⟩ none 0, .int .i64 2]) (by simp [results, Try.results29, go_sem, q0, q1, q2, q3, q4]) rfl ⟨none, 0, by rw [HJX.out, HJE.out, if_pos h4, if_pos h4], by rw [HJX.out, if_pos h4]; exact Row.nil, HB5.out, fun _ _ _ h => by cases h⟩
        · have HR5 := hid (Blk.set5 hR (.int .i64 c.c0) (.int .i64 c.c1) (.int .i64 c.c2) (.int .i64 c.c3) (.slice A' c.cloud.length kk))
          have HB5 := hid (Below.set5 hBX (Nat.le_of_lt (show w.heap.size < w.heap.size + 1 + 1 by omega)) (.int .i64 c.c0) (.int .i64 c.c1) (.int .i64 c.c2) (.int .i64 c.c3) (.slice A' c.cloud.length kk))
          have HROW := hid (Row.set5 hrow hnew hsz2 (.int .i64 c.c0) (.int .i64 c.c1) (.int .i64 c.c2) (.int .i64 c.c3) (.slice A' c.cloud.length kk))
          have hq : decide ((400 : Int) < (c.cloud.length : Int)) = false := by simp; omega
          have HN := hid hnew
          clear hX hrow hnew hb hBX hR
          go_wp2
          obtain ⟨⟨q0, q1, q2, q3, q4⟩, -⟩ := HR5.out.five
          exact bodyPost_ret (v := .tuple #[cval c A' kk, .int .i64 0]) (by simp [results, Try.results29, go_sem, q0, q1, q2, q3, q4]) rfl ⟨A', kk, by rw [HJX.out, HJE.out, if_neg h4, if_neg h4], by rw [HJX.out, if_neg h4]; exact HROW.out, HB5.out, fun b off q e => Nat.le_trans hszw (HN.out b off q e)⟩

end Go.Proofs.Ytogegnikpjcpdaa
