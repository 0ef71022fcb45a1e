/- dot.Minus. -/
import Derived.Test.YtogegnikpjcpdaaRMiss
namespace Go.Proofs.Ytogegnikpjcpdaa
set_option linter.unusedVariables false
open Go.ChangeShapes Go.WideShapes Go.ChangeAt Go.RowKit

def DotsErr (l : List (Int × Int)) (x : Int) (w : World) (e : Ending) (w' : World) : Prop :=
  ∃ v, e = .returned (.tuple #[v, .int .i64 x]) ∧ w'.ownsRow w.heap.size 27 2 v l.length (dcells l) ∧ Below w.heap.size w w'

theorem ret_vi {v : Value} {x y : Int} (h : x = y) : Ending.returned (.tuple #[v, .int .i64 x]) = .returned (.tuple #[v, .int .i64 y]) := by rw [h]

def minusX (a b : Ctx) : List (Int × Int) := if twoI a b ≠ 0 then [] else if 400 < (clkAll a b ++ cldAll a b).length then [] else (clkAll a b ++ cldAll a b).mergeSort dotLe
def minusE (a b : Ctx) : Int := if twoI a b ≠ 0 then twoI a b else if 400 < (clkAll a b ++ cldAll a b).length then 2 else 0

def clkUp (a b : Ctx) : Nat → List (Int × Int)
  | 0 => []
  | i + 1 => clkUp a b i ++ clkMiss a b i
theorem clkUp_all (a b : Ctx) : clkUp a b 4 = clkAll a b := rfl
theorem clkUp_le (a b : Ctx) {i j : Nat} (h : i ≤ j) : (clkUp a b i).length ≤ (clkUp a b j).length := by
  induction j with
  | zero => rw [show i = 0 by omega]; exact Nat.le_refl _
  | succ j ih =>
    by_cases e : i = j + 1
    · rw [e]; exact Nat.le_refl _
    · have := ih (by omega)
      simp only [clkUp, List.length_append]
      omega

theorem clk_at (c : Ctx) (i : Nat) (h : i < 4) (w : World) : (Instr.index 22 (clkv c.c0 c.c1 c.c2 c.c3) (.int .i64 (i : Int))).run Try.prog w = .ok (.int .i64 (c.at_ i)) w := by
  rcases (by omega : i = 0 ∨ i = 1 ∨ i = 2 ∨ i = 3) with e | e | e | e <;> subst e
  · exact clk0 _ _ _ _ w
  · exact clk1 _ _ _ _ w
  · exact clk2 _ _ _ _ w
  · exact clk3 _ _ _ _ w

set_option maxHeartbeats 1000000 in
set_option maxRecDepth 100000 in
theorem minus_bad (a b : Ctx) (A B : Option Addr) (k m : Nat) (w : World) (ra : Row w w.heap.size A (dcells a.cloud)) (la : a.cloud.length ≤ 9223372036854775807)
    (rb : Row w w.heap.size B (dcells b.cloud)) (lb : b.cloud.length ≤ 9223372036854775807) (h0 : twoI a b ≠ 0) :
    Calls Try.prog 33 #[cval a A k, cval b B m] w (DotsErr [] (twoI a b) w) := by
  have HBO := hid (fun w1 (hb : Below w.heap.size w w1) => both_any a b A B k m w1 (ra.step hb) la (rb.step hb) lb)
  have q2 : (twoI a b == 0) = false := by simpa using h0
  generalize twoI a b = I at *
  clear h0 ra rb
  obtain ⟨a0, a1, a2, a3, al⟩ := a
  obtain ⟨b0, b1, b2, b3, bl⟩ := b
  simp only [cval] at *
  go_enter Try.func33, Try.ntmps33
  go_wp2_with fail
  refine (HBO.out _ (by (repeat' (first | (with_reducible exact Below.refl _ _) | (with_reducible assumption) | (with_reducible refine below_drewN ?_ _) | (with_reducible refine Below.drew ?_) | (with_reducible refine Below.alloc ?_ ?_ _) | (with_reducible refine Below.setCell ?_ ?_ _) | (refine Below.trans ?_ (Below.mono (by assumption) ?_)) | go_size)))).mono ?_
  rintro e w1 ⟨rfl, hb1⟩
  go_wp2
  go_ret2
  exact ⟨_, rfl, World.ownsRow_nil _ _ _ _, (by refine Below.step' ?_ hb1; (repeat' (first | (with_reducible exact Below.refl _ _) | (with_reducible assumption) | (with_reducible refine below_drewN ?_ _) | (with_reducible refine Below.drew ?_) | (with_reducible refine Below.alloc ?_ ?_ _) | (with_reducible refine Below.setCell ?_ ?_ _) | (refine Below.trans ?_ (Below.mono (by assumption) ?_)) | go_size)))⟩

set_option maxHeartbeats 1000000 in
set_option maxRecDepth 100000 in
theorem minus_good (a b : Ctx) (A B : Option Addr) (k m : Nat) (w : World) (ra : Row w w.heap.size A (dcells a.cloud)) (la : a.cloud.length ≤ 400)
    (rb : Row w w.heap.size B (dcells b.cloud)) (lb : b.cloud.length ≤ 400) (ca : clkIn a) (cb : clkIn b) (h0 : twoI a b = 0) :
    Calls Try.prog 33 #[cval a A k, cval b B m] w (DotsErr (if 400 < (clkAll a b ++ cldAll a b).length then [] else (clkAll a b ++ cldAll a b).mergeSort dotLe) (if 400 < (clkAll a b ++ cldAll a b).length then 2 else 0) w) := by
  have HBO := hid (fun w1 (hb : Below w.heap.size w w1) => both_any a b A B k m w1 (ra.step hb) (by omega) (rb.step hb) (by omega))
  rw [h0] at HBO
  have HH := hid (fun w1 (hb : Below w.heap.size w w1) d => has_any b d B m w1 (rb.step hb) (by omega))
  obtain ⟨R, hR⟩ : ∃ R, R = (if 400 < (clkAll a b ++ cldAll a b).length then [] else (clkAll a b ++ cldAll a b).mergeSort dotLe) := ⟨_, rfl⟩
  obtain ⟨X, hX⟩ : ∃ X : Int, X = (if 400 < (clkAll a b ++ cldAll a b).length then 2 else 0) := ⟨_, rfl⟩
  rw [← hR, ← hX]
  have HR := hid hR
  have HX := hid hX
  have RA := hid ra
  have CA := hid ca
  have CB := hid cb
  have UA := hid (clkUp_all a b)
  have UL := hid (fun i (h : i ≤ 4) => clkUp_le a b h)
  have CELB := hid (fun n h0 h4 v => at_cell b n h0 h4 v)
  have CLKA := hid (clk_at a)
  clear ra rb ca cb hR hX h0
  obtain ⟨i0, hi0, hz0, hz1, hz2⟩ := info_parts info_dot
  go_enter Try.func33, Try.ntmps33
  simp only [cval]
  go_wp2_with fail
  refine (HBO.out _ (by (repeat' (first | (with_reducible exact Below.refl _ _) | (with_reducible assumption) | (with_reducible refine below_drewN ?_ _) | (with_reducible refine Below.drew ?_) | (with_reducible refine Below.alloc ?_ ?_ _) | (with_reducible refine Below.setCell ?_ ?_ _) | (refine Below.trans ?_ (Below.mono (by assumption) ?_)) | go_size)))).mono ?_
  rintro e W0 ⟨rfl, hb1⟩
  have hB0 : Below w.heap.size w W0 := (by refine Below.step' ?_ hb1; (repeat' (first | (with_reducible exact Below.refl _ _) | (with_reducible assumption) | (with_reducible refine below_drewN ?_ _) | (with_reducible refine Below.drew ?_) | (with_reducible refine Below.alloc ?_ ?_ _) | (with_reducible refine Below.setCell ?_ ?_ _) | (refine Below.trans ?_ (Below.mono (by assumption) ?_)) | go_size)))
  have hXa : Blk W0 w.heap.size (cbox a A k) 25 := Blk.step (by exact (Blk.new w _ _).alloc _) hb1
  have hXb : Blk W0 (w.heap.size + 1) (cbox b B m) 25 := Blk.step (by exact Blk.new' (w.alloc _) _ _ (by simp)) hb1
  have xa0 := hXa.cells.1
  have HB0 := hid hB0
  have HXA := hid hXa
  have HXB := hid hXb
  clear hB0 hXa hXb hb1
  simp only [cbox] at xa0
  go_wp2
  go_outline
  clear xa0
  go_loopw [7, 22] (fun s7 s22 wr => ∃ i : Nat, i ≤ 4 ∧ s22 = .int .i64 i ∧ (clkUp a b i).length ≤ 400 ∧ wr.ownsRow W0.heap.size 27 2 s7 (clkUp a b i).length (dcells (clkUp a b i)) ∧ Below W0.heap.size W0 wr) (fun _ s22 _ => 4 - (intOf s22).toNat)
  case atStart => exact ⟨0, by omega, rfl, by simp [clkUp], World.ownsRow_nil _ _ _ _, Below.refl _ _⟩
  case round =>
    obtain ⟨i, hi, rfl, hlen, hown, hbw⟩ := hrel
    by_cases hlt : i < 4
    · have xb := (HXB.out.step hbw).cells.1
      have heb := CELB.out i (by omega) (by omega) (.slice B b.cloud.length m)
      have eb : wr.cell? ⟨w.heap.size + 1, i, none⟩ = some (.int .i64 (b.at_ i)) := by rw [xb]; exact heb
      have ka := CLKA.out i hlt
      have ti : decide ((i : Int) < 4) = true := by simp; omega
      have ia := at_in CA.out i
      have ib := at_in CB.out i
      obtain ⟨ia0, ia1⟩ := ia
      obtain ⟨ib0, ib1⟩ := ib
      have HOWN := hid hown
      have HBW := hid hbw
      clear xb hown hbw
      obtain ⟨O, hO⟩ : ∃ O, O = clkUp a b i := ⟨_, rfl⟩
      obtain ⟨K, hK⟩ : ∃ K, K = (a.at_ i - b.at_ i).toNat := ⟨_, rfl⟩
      have hS : clkUp a b (i + 1) = O ++ clkDots a b i K := by rw [hO, hK]; rfl
      have hsuc : ∀ j, clkDots a b i (j + 1) = clkDots a b i j ++ (if hasB b ((i : Int), b.at_ i + 1 + (j : Int)) = true then [] else [((i : Int), b.at_ i + 1 + (j : Int))]) := fun j => clkDots_succ a b i j
      have hpre : ∀ j, j ≤ K → (O ++ clkDots a b i j).length ≤ (clkAll a b).length := by
        intro j hj
        obtain ⟨D, hD⟩ := clkDots_prefix a b i j K hj
        have h1 := UL.out (i + 1) (by omega)
        rw [hS, UA.out, hD] at h1
        simp only [List.length_append] at *
        omega
      rw [← hO] at HOWN hlen
      have HS := hid hS
      have HSUC := hid hsuc
      have HPRE := hid hpre
      clear hS hO hsuc hpre
      generalize a.at_ i = ai at *
      generalize b.at_ i = bi at *
      have hk1 : bi + 1 + (K : Int) ≤ 2199023255553 := by omega
      have HK := hid hK
      clear hK
      obtain ⟨wo, rfl⟩ : ∃ wo : World, wo = wr := ⟨_, rfl⟩
      go_wp2
      clear eb ka
      go_loopw [7, 10] (fun s7 s10 wr => ∃ j : Nat, j ≤ K ∧ s10 = .int .i64 (bi + 1 + j) ∧ (O ++ clkDots a b i j).length ≤ 400 ∧ wr.ownsRow W0.heap.size 27 2 s7 (O ++ clkDots a b i j).length (dcells (O ++ clkDots a b i j)) ∧ Below W0.heap.size W0 wr) (fun _ s10 _ => (bi + 1 + K - intOf s10).toNat)
      case atStart => exact ⟨0, by omega, by simp, by simpa [clkDots] using hlen, by simpa [clkDots] using HOWN.out, HBW.out⟩
      case round =>
        obtain ⟨j, hj, rfl, hl2, hown2, hb2⟩ := hrel
        have hB : Below w.heap.size w wr := Below.step' HB0.out hb2
        obtain ⟨A2, c2, rfl⟩ := own_form hown2
        obtain ⟨o2, ho2⟩ : ∃ o2, o2 = O ++ clkDots a b i j := ⟨_, rfl⟩
        rw [← ho2] at hown2 hl2 ⊢
        have HO2 := hid ho2
        clear ho2
        by_cases hjK : j < K
        · have t1 : bi + 1 + (j : Int) ≤ ai := by have := HK.out; omega
          have xb := (HXB.out.step hb2).cells.1
          have sb := (HXB.out.step hb2).lt
          have nb : (w.heap.size + 1 = wr.heap.size) = False := by simp; omega
          have HOWN2 := hid hown2
          have HB2 := hid hb2
          have HBB := hid hB
          have hP1 := HPRE.out (j + 1) (by omega)
          rw [HSUC.out j] at hP1
          clear hown2 hb2 hB
          cases hq : hasB b ((i : Int), bi + 1 + (j : Int))
          · have HQ := hid hq
            rw [hq, if_neg (by simp), ← List.append_assoc, ← HO2.out] at hP1
            have HP1 := hid hP1
            clear hP1
            go_wp2_with fail
            refine (HH.out _ (HBB.out.alloc (by omega) _) ((i : Int), bi + 1 + (j : Int))).mono ?_
            rw [hq]
            rintro e w5 ⟨rfl, hb5⟩
            have hB5 : Below wr.heap.size wr w5 := (by refine Below.step' ?_ hb5; (repeat' (first | (with_reducible exact Below.refl _ _) | (with_reducible assumption) | (with_reducible refine below_drewN ?_ _) | (with_reducible refine Below.drew ?_) | (with_reducible refine Below.alloc ?_ ?_ _) | (with_reducible refine Below.setCell ?_ ?_ _) | (refine Below.trans ?_ (Below.mono (by assumption) ?_)) | go_size)))
            have hx5 : Blk w5 wr.heap.size #[.int .i64 i, .int .i64 (bi + 1 + j)] 27 := (Blk.new wr _ _).step hb5
            have c5 := hx5.cells.1
            have HOWN5 := hid (own_later HOWN2.out hB5)
            have HB5 := hid (Below.step' HB2.out hB5)
            have hs5 := hB5.size
            have hs0 := (Below.step' HB2.out hB5).size
            clear xb hb5 hB5 hx5 hq
            by_cases h4 : o2.length + 1 ≤ 400
            all_goals go_wp2_with (at_builtin; refine wpList_append_own _ rfl _ _ 23 rfl W0.heap.size 27 i0 _ 2 16 Try.underlying23 hi0 hz0 hz1 hz2 rfl (by decide) _ _ _ rfl (HOWN5.out.alloc _) ⟨w5.heap.size, 0, none⟩ 1 1 (dcells [((i : Int), bi + 1 + (j : Int))]) rfl rfl (news_new w5 _ _ _ _ rfl) (dcells_one _) ?_ ?_ ?_ ?_; rotate_right; intro v6 w6 hown6 hg6 _; obtain ⟨A6, c6, rfl⟩ := own_form hown6; have HOWN6 := hid hown6; clear hown6; rotate_left; (simp only [maxLen]; omega); (omega); (simp; omega))
            · go_roundw
              case rel =>
                refine ⟨j + 1, by omega, by go_num, ?_, ?_, grown_below (HB5.out.alloc (by omega) _) hg6 (HOWN5.out.alloc _) (by simp; omega)⟩
                · rw [HSUC.out j, HQ.out, if_neg (by simp), ← List.append_assoc, ← HO2.out]; simpa using h4
                · rw [HSUC.out j, HQ.out, if_neg (by simp), ← List.append_assoc, ← HO2.out]
                  have := HOWN6.out
                  simpa [dcells] using this
              case measure => simp [intOf]; omega
            · go_ret2
              have hbig : 400 < (clkAll a b ++ cldAll a b).length := by have := HP1.out; simp only [List.length_append, List.length_cons, List.length_nil] at *; omega
              refine ⟨_, ret_vi (by rw [HX.out, if_pos hbig]), by rw [HR.out, if_pos hbig]; exact World.ownsRow_nil _ _ _ _, ?_⟩
              exact Below.step' HB0.out (grown_below (HB5.out.alloc (by omega) _) hg6 (HOWN5.out.alloc _) (by simp; omega))
          · have HQ := hid hq
            clear hP1
            go_wp2_with fail
            refine (HH.out _ (HBB.out.alloc (by omega) _) ((i : Int), bi + 1 + (j : Int))).mono ?_
            rw [hq]
            rintro e w5 ⟨rfl, hb5⟩
            have hB5 : Below wr.heap.size wr w5 := (by refine Below.step' ?_ hb5; (repeat' (first | (with_reducible exact Below.refl _ _) | (with_reducible assumption) | (with_reducible refine below_drewN ?_ _) | (with_reducible refine Below.drew ?_) | (with_reducible refine Below.alloc ?_ ?_ _) | (with_reducible refine Below.setCell ?_ ?_ _) | (refine Below.trans ?_ (Below.mono (by assumption) ?_)) | go_size)))
            have HOWN5 := hid (own_later HOWN2.out hB5)
            have HB5 := hid (Below.step' HB2.out hB5)
            clear xb hb5 hB5 hq
            go_wp2
            go_roundw
            case rel =>
              refine ⟨j + 1, by omega, by go_num, ?_, ?_, HB5.out⟩
              · rw [HSUC.out j, HQ.out, if_pos rfl, List.append_nil, ← HO2.out]; exact hl2
              · rw [HSUC.out j, HQ.out, if_pos rfl, List.append_nil, ← HO2.out]
                exact HOWN5.out
            case measure => simp [intOf]; omega
        · have e : j = K := by omega
          have t1 : ai < bi + 1 + (j : Int) := by have := HK.out; omega
          have HE := hid e
          have HOWN2 := hid hown2
          have HB2 := hid hb2
          clear hown2 hb2 hB e
          go_wp2
          go_roundw
          case rel =>
            refine ⟨i + 1, by omega, by go_num, ?_, ?_, HB2.out⟩
            · rw [HS.out, ← HE.out, ← HO2.out]; exact hl2
            · rw [HS.out, ← HE.out, ← HO2.out]; exact HOWN2.out
          case measure => simp [intOf]; omega
    · have e : i = 4 := by omega
      have HE := hid e
      rw [e, UA.out] at hlen hown
      clear e
      obtain ⟨A3, c3, rfl⟩ := own_form hown
      have xa := (HXA.out.step hbw).cells.1
      have e4 : wr.cell? ⟨w.heap.size, 4, none⟩ = some (.slice A a.cloud.length k) := by rw [xa]; rfl
      have hbo : Below w.heap.size w wr := Below.step' HB0.out hbw
      have hso := hbw.size
      have HOWN := hid hown
      have HBW := hid hbw
      clear hown hbw xa hbo
      obtain ⟨wo, rfl⟩ : ∃ wo : World, wo = wr := ⟨_, rfl⟩
      go_wp2
      clear e4
      go_loopw [7, 54] (fun s7 s54 wr => ∃ j : Nat, j ≤ a.cloud.length ∧ s54 = .int .i64 j ∧ wr.ownsRow W0.heap.size 27 2 s7 (clkAll a b ++ (a.cloud.take j).filter (fun d => !hasB b d)).length (dcells (clkAll a b ++ (a.cloud.take j).filter (fun d => !hasB b d))) ∧ Below W0.heap.size W0 wr) (fun _ s54 _ => a.cloud.length - (intOf s54).toNat)
      case atStart => exact ⟨0, by omega, rfl, by simpa using HOWN.out, HBW.out⟩
      case round =>
        obtain ⟨j, hj, rfl, hown4, hb4⟩ := hrel
        have hB : Below w.heap.size w wr := Below.step' HB0.out hb4
        have hl4 : (clkAll a b ++ (a.cloud.take j).filter (fun d => !hasB b d)).length ≤ 800 := by
          have := List.length_filter_le (fun d : Int × Int => !hasB b d) (a.cloud.take j)
          simp only [List.length_append, List.length_take] at *
          omega
        have hst : ∀ hj : j < a.cloud.length, clkAll a b ++ (a.cloud.take (j + 1)).filter (fun d => !hasB b d) = (clkAll a b ++ (a.cloud.take j).filter (fun d => !hasB b d)) ++ (if (!hasB b a.cloud[j]) = true then [a.cloud[j]] else []) := by
          intro hj
          rw [List.take_succ_eq_append_getElem hj, List.filter_append, List.append_assoc]
          congr 2
          rw [List.filter_cons, List.filter_nil]
        obtain ⟨o4, ho4⟩ : ∃ o4, o4 = clkAll a b ++ (a.cloud.take j).filter (fun d => !hasB b d) := ⟨_, rfl⟩
        rw [← ho4] at hown4 hl4 hst
        obtain ⟨A4, c4, rfl⟩ := own_form hown4
        have HO4 := hid ho4
        clear ho4
        by_cases hjl : j < a.cloud.length
        · have hst2 := hst hjl
          have HST := hid hst2
          clear hst hst2
          obtain ⟨b', off, hA, hb', h0, h1⟩ := (RA.out.step hB).dot hjl
          subst hA
          have xb := (HXB.out.step hb4).cells.1
          have sb := (HXB.out.step hb4).lt
          have nb : (w.heap.size + 1 = wr.heap.size) = False := by simp; omega
          have HOWN4 := hid hown4
          have HB4 := hid hb4
          have HBB := hid hB
          have hs0 := hb4.size
          clear hown4 hb4 hB
          generalize a.cloud[j] = d at *
          obtain ⟨d0, d1⟩ := d
          simp only at h0 h1
          cases hq : hasB b (d0, d1)
          · have HQ := hid hq
            go_wp2_with fail
            refine (HH.out _ (HBB.out.alloc (by omega) _) (d0, d1)).mono ?_
            rw [hq]
            rintro e w5 ⟨rfl, hb5⟩
            have hB5 : Below wr.heap.size wr w5 := (by refine Below.step' ?_ hb5; (repeat' (first | (with_reducible exact Below.refl _ _) | (with_reducible assumption) | (with_reducible refine below_drewN ?_ _) | (with_reducible refine Below.drew ?_) | (with_reducible refine Below.alloc ?_ ?_ _) | (with_reducible refine Below.setCell ?_ ?_ _) | (refine Below.trans ?_ (Below.mono (by assumption) ?_)) | go_size)))
            have hx5 : Blk w5 wr.heap.size #[.int .i64 d0, .int .i64 d1] 27 := (Blk.new wr _ _).step hb5
            have c5 := hx5.cells.1
            have HOWN5 := hid (own_later HOWN4.out hB5)
            have HB5 := hid (Below.step' HB4.out hB5)
            have hs5 := hB5.size
            clear xb hb5 hB5 hx5 hq h0 h1
            go_wp2_with (at_builtin; refine wpList_append_own _ rfl _ _ 23 rfl W0.heap.size 27 i0 _ 2 16 Try.underlying23 hi0 hz0 hz1 hz2 rfl (by decide) _ _ _ rfl (HOWN5.out.alloc _) ⟨w5.heap.size, 0, none⟩ 1 1 (dcells [(d0, d1)]) rfl rfl (news_new w5 _ _ _ _ rfl) (dcells_one _) ?_ ?_ ?_ ?_; rotate_right; intro v6 w6 hown6 hg6 _; rotate_left; (simp only [maxLen]; omega); (omega); (simp; omega))
            go_roundw
            case rel =>
              refine ⟨j + 1, by omega, by go_num, ?_, grown_below (HB5.out.alloc (by omega) _) hg6 (HOWN5.out.alloc _) (by simp; omega)⟩
              rw [HST.out, HQ.out, if_pos (by simp)]
              simpa [dcells] using hown6
            case measure => simp [intOf]; omega
          · have HQ := hid hq
            go_wp2_with fail
            refine (HH.out _ (HBB.out.alloc (by omega) _) (d0, d1)).mono ?_
            rw [hq]
            rintro e w5 ⟨rfl, hb5⟩
            have hB5 : Below wr.heap.size wr w5 := (by refine Below.step' ?_ hb5; (repeat' (first | (with_reducible exact Below.refl _ _) | (with_reducible assumption) | (with_reducible refine below_drewN ?_ _) | (with_reducible refine Below.drew ?_) | (with_reducible refine Below.alloc ?_ ?_ _) | (with_reducible refine Below.setCell ?_ ?_ _) | (refine Below.trans ?_ (Below.mono (by assumption) ?_)) | go_size)))
            have HOWN5 := hid (own_later HOWN4.out hB5)
            have HB5 := hid (Below.step' HB4.out hB5)
            clear xb hb5 hB5 hq h0 h1
            go_wp2
            go_roundw
            case rel =>
              refine ⟨j + 1, by omega, by go_num, ?_, HB5.out⟩
              rw [HST.out, HQ.out, if_neg (by simp), List.append_nil]
              exact HOWN5.out
            case measure => simp [intOf]; omega
        · have e4 : o4 = clkAll a b ++ cldAll a b := by rw [HO4.out, List.take_of_length_le (by omega)]; rfl
          rw [← e4] at HR HX
          have HOWN4 := hid hown4
          have HB4 := hid (Below.step' HB0.out hb4)
          have hs4 := hb4.size
          have hs0 := HB0.out.size
          clear hown4 hb4 hB hst e4
          by_cases h4 : 400 < o4.length
          · go_wp2
            go_ret2
            exact ⟨_, ret_vi (by rw [HX.out, if_pos h4]), by rw [HR.out, if_pos h4]; exact World.ownsRow_nil _ _ _ _, HB4.out⟩
          · have HSO := hid (sort_own o4 wr HOWN4.out (by omega))
            go_wp2_with fail
            refine HSO.out.mono ?_
            rintro e w7 ⟨rfl, hown7, hg7⟩
            have HOWN7 := hid hown7
            have HG7 := hid hg7
            clear hown7 hg7
            go_wp2
            go_ret2
            refine ⟨_, ret_vi (by rw [HX.out, if_neg h4]), ?_, ?_⟩
            · rw [HR.out, if_neg h4, List.length_mergeSort]
              exact own_base HOWN7.out hs0
            · exact HB4.out.grown HG7.out (by omega) (fun g e => by have := (HOWN4.out.lt g e).1; omega)
end Go.Proofs.Ytogegnikpjcpdaa
