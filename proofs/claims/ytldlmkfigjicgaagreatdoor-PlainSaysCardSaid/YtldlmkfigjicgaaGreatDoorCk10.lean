/- StbW, Sym, SymM, Sts, ZsA, ZsB -/
import Derived.Test.YtldlmkfigjicgaaGreatDoorCk03
import Derived.BigRegion
import Derived.Deep.LoopGhost
import Derived.Outline
import Derived.Shelf.SlSortCmp.QuietGrown
import Derived.Deep.CutBlock
import Derived.Deep.CutRange
import Derived.Test.YtldlmkfigjicgaaGreatDoorCk05
import Derived.WalkSpells
/- slices.SortStableFunc at items: swapRange, rotate. -/
namespace Go.Proofs.YtldlmkfigjicgaaGreatDoor
set_option linter.unusedVariables false
open Go.ChangeShapes Go.WideShapes Go.ChangeAt Go.RowKit Go.Shelf Go.Lib Go.Sort

/-- Items of which something holds. -/
abbrev QI (Q : IR → Prop) := {x : IR // Q x}
abbrev QI.cells {Q : IR → Prop} (x : QI Q) : List Value := x.1.cells
variable {Q : IR → Prop} [Inhabited (QI Q)]

/-- What a walk wants of a place of the row. -/
theorem SWK.at2 {w0 W : World} {blk off : Nat} {dk d0 : Array (QI Q)} (h : SWK (QI.cells (Q := Q)) 2 w0 blk off dk W) (R : RowK (QI.cells (Q := Q)) 2 w0 blk off d0) (hs : dk.size = d0.size) (i : Nat) (hi : i < dk.size) :
    W.cell? ⟨blk, off + i * 2, none⟩ = some (.slice dk[i]!.1.A dk[i]!.1.row.length dk[i]!.1.k) ∧ W.cell? ⟨blk, off + i * 2 + 1, none⟩ = some (.int .i64 dk[i]!.1.n) ∧ W.frozen? ⟨blk, off + i * 2, none⟩ = false ∧ W.frozen? ⟨blk, off + i * 2 + 1, none⟩ = false := by
  have hH := h.holds R.hblk R.hH hs
  have g : ∀ j, j < 2 → W.cell? ⟨blk, off + (i * 2 + j), none⟩ = some (dk[i]!.1.cells[j]!) ∧ W.frozen? ⟨blk, off + (i * 2 + j), none⟩ = false := fun j hj => by
    have := hH (i * 2 + j) (by rw [size_flatK]; omega)
    rw [get_flatK _ _ _ _ (by omega), show (i * 2 + j) / 2 = i by omega, show (i * 2 + j) % 2 = j by omega] at this
    exact this
  have g0 := g 0 (by omega)
  have g1 := g 1 (by omega)
  rw [Nat.add_zero] at g0
  rw [← Nat.add_assoc] at g1
  exact ⟨g0.1, g1.1, g0.2, g1.2⟩

set_option maxHeartbeats 2000000 in
set_option maxRecDepth 100000 in
theorem swap_range (g : Nat) (cb : Array Value) (blk off cap a b n : Nat) (d0 d : Array (QI Q)) (w0 w : World)
    (R : RowK (QI.cells (Q := Q)) 2 w0 blk off d0) (hs : d.size = d0.size) (S : SWK (QI.cells (Q := Q)) 2 w0 blk off d w) (ha : a + n ≤ b) (hb : b + n ≤ d.size) (hsz : d.size < 4611686018427387904) :
    Calls Tryz.prog 158 #[.slice (some ⟨blk, off, none⟩) d.size cap, .int .i64 a, .int .i64 b, .int .i64 n, .func (.func g) #[] cb] w fun e w' => e = .returned (.tuple #[]) ∧ SWK (QI.cells (Q := Q)) 2 w0 blk off (swapRange a b n d) w' := by
  have S0 := hid S
  have HR := hid R
  have HS := hid hs
  clear S R hs
  go_enter Tryz.func158, Tryz.ntmps158
  go_wp2
  go_loopw [10] (fun v wr => ∃ i : Nat, i ≤ n ∧ v = .int .i64 i ∧ Hid (SWK (QI.cells (Q := Q)) 2 w0 blk off (swapRange a b i d) wr)) (fun v _ => n - (intOf v).toNat)
  case atStart => exact ⟨0, by omega, rfl, S0⟩
  case round =>
    obtain ⟨i, hi, rfl, S1h⟩ := hrel
    by_cases hlt : i < n
    · have S1 := S1h.out
      have hds := swapRange_size a b d i
      have e1 : (swapRange a b i d).size = d0.size := hds.trans HS.out
      have HQ := hid (show swapRange a b (i + 1) d = swp (swapRange a b i d) (a + i) (b + i) from rfl)
      obtain ⟨D, hD⟩ : ∃ D, D = swapRange a b i d := ⟨_, rfl⟩
      rw [← hD] at S1 hds e1 HQ
      clear hD
      obtain ⟨c0, c1, f0, f1⟩ := SWK.at2 S1 HR.out e1 (a + i) (by omega)
      obtain ⟨k0, k1, h0, h1⟩ := SWK.at2 S1 HR.out e1 (b + i) (by omega)
      have S2 := hid (S1.swapped HR.out (a + i) (b + i) (by omega) (by omega))
      generalize D[a + i]! = x at *
      generalize D[b + i]! = y at *
      obtain ⟨⟨xr, xA, xk, xn⟩, hqx⟩ := x
      obtain ⟨⟨yr, yA, yk, yn⟩, hqy⟩ := y
      simp only at c0 c1 k0 k1
      have ea : ((a : Int) + (i : Int)).toNat = a + i := by omega
      have ra : IntKind.i64.wrap ((a : Int) + (i : Int)) = (a : Int) + (i : Int) := by rw [IntKind.wrap_i64]; omega
      have pa : (0 : Int) ≤ (a : Int) + (i : Int) := by omega
      have ba : (a : Int) + (i : Int) < (d.size : Int) := by omega
      have eb : ((b : Int) + (i : Int)).toNat = b + i := by omega
      have rb : IntKind.i64.wrap ((b : Int) + (i : Int)) = (b : Int) + (i : Int) := by rw [IntKind.wrap_i64]; omega
      have pb : (0 : Int) ≤ (b : Int) + (i : Int) := by omega
      have bb : (b : Int) + (i : Int) < (d.size : Int) := by omega
      have n0 : (off + (a + i) * 2 = off + (b + i) * 2) = False := by simp; omega
      have m0 : (off + (b + i) * 2 = off + (a + i) * 2) = False := by simp; omega
      have n1 : (off + (a + i) * 2 = off + (b + i) * 2 + 1) = False := by simp; omega
      have m1 : (off + (b + i) * 2 + 1 = off + (a + i) * 2) = False := by simp; omega
      have n2 : (off + (a + i) * 2 + 1 = off + (b + i) * 2) = False := by simp; omega
      have m2 : (off + (b + i) * 2 = off + (a + i) * 2 + 1) = False := by simp; omega
      have n3 : (off + (a + i) * 2 + 1 = off + (b + i) * 2 + 1) = False := by simp; omega
      have m3 : (off + (b + i) * 2 + 1 = off + (a + i) * 2 + 1) = False := by simp; omega
      clear hds e1 S1
      go_wp2_with fail
      go_big_region
      go_wp2
      go_roundw
      case rel => exact ⟨i + 1, by omega, by go_num, by rw [HQ.out]; exact S2⟩
      case measure => simp [intOf]; omega
    · have e : i = n := by omega
      have HE := hid e
      clear e
      go_wp2
      go_end0
      exact ⟨rfl, by have := S1h.out; rwa [HE.out] at this⟩

set_option maxHeartbeats 2000000 in
set_option maxRecDepth 100000 in
theorem rotate (g : Nat) (cb : Array Value) (blk off cap a m b : Nat) (d0 d : Array (QI Q)) (w0 w : World)
    (R : RowK (QI.cells (Q := Q)) 2 w0 blk off d0) (hs : d.size = d0.size) (S : SWK (QI.cells (Q := Q)) 2 w0 blk off d w) (ha : a < m) (hm : m < b) (hb : b ≤ d.size) (hsz : d.size < 4611686018427387904) :
    Calls Tryz.prog 146 #[.slice (some ⟨blk, off, none⟩) d.size cap, .int .i64 a, .int .i64 m, .int .i64 b, .func (.func g) #[] cb] w fun e w' => e = .returned (.tuple #[]) ∧
      ∃ d', Rot d a m b d' ∧ PermIn a b d d' ∧ SWK (QI.cells (Q := Q)) 2 w0 blk off d' w' := by
  have S0 := hid S
  have HR := hid R
  have HS := hid hs
  clear S R hs
  have wa : IntKind.i64.wrap ((m : Int) - (a : Int)) = (m : Int) - a := IntWalk.i64_in _ (by omega)
  have wb : IntKind.i64.wrap ((b : Int) - (m : Int)) = (b : Int) - m := IntWalk.i64_in _ (by omega)
  go_enter Tryz.func146, Tryz.ntmps146
  go_wp2_with fail
  -- STOP-ra
  go_loopg [10, 11] (b - a) (fun gg s10 s11 wr => ∃ (i j : Nat) (D : Array (QI Q)), s10 = .int .i64 i ∧ s11 = .int .i64 j ∧ 0 < i ∧ 0 < j ∧ a + i ≤ m ∧ m + j ≤ b ∧ i + j ≤ gg + 0 ∧ D.size = d.size ∧ Hid (PermIn a b d D) ∧ Hid (∀ d', Rot D (m - i) m (m + j) d' → Rot d a m b d') ∧ Hid (SWK (QI.cells (Q := Q)) 2 w0 blk off D wr))
  case atStart => exact ⟨m - a, b - m, d, by rw [show ((m - a : Nat) : Int) = (m : Int) - a by omega], by rw [show ((b - m : Nat) : Int) = (b : Int) - m by omega], by omega, by omega, by omega, by omega, by omega, rfl, perm_refl _ _ _, fun d' h => by rwa [show m - (m - a) = a by omega, show m + (b - m) = b by omega] at h, S0⟩
  case round =>
    clear S0 wa wb
    obtain ⟨i, j, D, rfl, rfl, hi0, hj0, hi, hj, hg, hD, HP, HROT, S1⟩ := hrel
    have wi : IntKind.i64.wrap ((m : Int) - (i : Int)) = (m : Int) - i := IntWalk.i64_in _ (by omega)
    have zi : (m : Int) - (i : Int) = ((m - i : Nat) : Int) := by omega
    have HDS := hid hD
    by_cases hij : i = j
    · subst hij
      have hc := swap_range g cb blk off cap (m - i) m i d0 D w0 wr HR.out (hD.trans HS.out) S1.out (by omega) (by omega) (by omega)
      have hr := rot_end (d := D) (m := m) (i := i) (by omega) (by omega)
      have hp : PermIn a b D (swapRange (m - i) m i D) := swapRange_perm i (by omega) (by omega) (by omega) (by omega) (by omega)
      rw [hD] at hc
      have HC := hid hc
      have HRR := hid (show Rot d a m b (swapRange (m - i) m i D) from HROT.out _ hr)
      have HPP := hid (perm_trans HP.out hp)
      have ZI := hid zi
      clear hc hr hp zi hD
      go_wp2_with fail
      -- STOP-rb
      rw [ZI.out]
      refine HC.out.mono ?_
      rintro e w' ⟨rfl, S2⟩
      go_wp2
      go_end0
      exact ⟨rfl, _, HRR.out, HPP.out, S2⟩
    · by_cases hlt : j < i
      · have hc := swap_range g cb blk off cap (m - i) m j d0 D w0 wr HR.out (hD.trans HS.out) S1.out (by omega) (by omega) (by omega)
        have hp : PermIn a b D (swapRange (m - i) m j D) := swapRange_perm j (by omega) (by omega) (by omega) (by omega) (by omega)
        rw [hD] at hc
        have HC := hid hc
        have HRR := hid (fun d' (h : Rot (swapRange (m - i) m j D) (m - (i - j)) m (m + j) d') => HROT.out _ (rot_left hlt (by omega) (by omega) h))
        have HPP := hid (perm_trans HP.out hp)
        have HSZ := hid ((swapRange_size (m - i) m D j).trans hD)
        have ZI := hid zi
        have w2 : IntKind.i64.wrap ((i : Int) - (j : Int)) = (i : Int) - j := IntWalk.i64_in _ (by omega)
        have hne : ((i : Int) != (j : Int)) = true := by simp; omega
        clear hc hp zi hD hij
        go_wp2_with fail
        rw [ZI.out]
        refine HC.out.mono ?_
        rintro e w' ⟨rfl, S2⟩
        have HS2 := hid S2
        clear S2
        go_wp2
        clear wi w2
        go_roundg (i - j + j)
        case measure => omega
        case rel => exact ⟨i - j, j, _, by congr 1; omega, rfl, by omega, by omega, by omega, by omega, by omega, HSZ.out, HPP, HRR, HS2⟩
      · have hlt2 : i < j := by omega
        have hc := swap_range g cb blk off cap (m - i) (m + j - i) i d0 D w0 wr HR.out (hD.trans HS.out) S1.out (by omega) (by omega) (by omega)
        have hp : PermIn a b D (swapRange (m - i) (m + j - i) i D) := swapRange_perm i (by omega) (by omega) (by omega) (by omega) (by omega)
        rw [hD] at hc
        have HC := hid hc
        have HRR := hid (fun d' (h : Rot (swapRange (m - i) (m + j - i) i D) (m - i) m (m + (j - i)) d') => HROT.out _ (rot_right (by omega) (by omega) (by omega) h))
        have HPP := hid (perm_trans HP.out hp)
        have HSZ := hid ((swapRange_size (m - i) (m + j - i) D i).trans hD)
        have ZI := hid zi
        have w2 : IntKind.i64.wrap ((j : Int) - (i : Int)) = (j : Int) - i := IntWalk.i64_in _ (by omega)
        have w3 : IntKind.i64.wrap ((m : Int) + (j : Int)) = (m : Int) + j := IntWalk.i64_in _ (by omega)
        have w4 : IntKind.i64.wrap ((m : Int) + (j : Int) - (i : Int)) = (m : Int) + j - i := IntWalk.i64_in _ (by omega)
        have ZJ : Hid ((m : Int) + (j : Int) - (i : Int) = ((m + j - i : Nat) : Int)) := hid (by omega)
        have hne : ((i : Int) != (j : Int)) = true := by simp; omega
        clear hc hp zi hD hij
        go_wp2_with fail
        rw [ZI.out, ZJ.out]
        refine HC.out.mono ?_
        rintro e w' ⟨rfl, S2⟩
        have HS2 := hid S2
        clear S2
        go_wp2
        clear wi w2 w3 w4
        go_roundg (i + (j - i))
        case measure => omega
        case rel => exact ⟨i, j - i, _, rfl, by congr 1; omega, by omega, by omega, by omega, by omega, by omega, HSZ.out, HPP, HRR, HS2⟩
end Go.Proofs.YtldlmkfigjicgaaGreatDoor
/- slices.SortStableFunc at items: symMerge. -/
namespace Go.Proofs.YtldlmkfigjicgaaGreatDoor
set_option linter.unusedVariables false
open Go.ChangeShapes Go.WideShapes Go.ChangeAt Go.RowKit Go.Shelf Go.Lib Go.Sort
variable {Q : IR → Prop} [Inhabited (QI Q)]

set_option maxHeartbeats 4000000 in
set_option maxRecDepth 100000 in
theorem sym_left (cf : QI Q → QI Q → Int) (g : Nat) (cb : Array Value) (blk off cap : Nat) (d0 : Array (QI Q)) (w0 : World) (eg : ∀ args w, (callFunc g args).run Tryz.prog w = .ok (.enter g args) w) (hC : CmpLays Tryz.prog g cb (QI.cells (Q := Q)) 2 cf blk off d0.size w0)
    (R : RowK (QI.cells (Q := Q)) 2 w0 blk off d0) (hS : SWO (ltOf cf)) (hsz : d0.size < 4611686018427387904) (a m b : Nat) (d : Array (QI Q)) (w : World)
    (hm : m = a + 1) (hmb : m < b) (hb : b ≤ d.size) (hs : d.size = d0.size) (hr : SortedIn (ltOf cf) m b d) (S : SWK (QI.cells (Q := Q)) 2 w0 blk off d w) :
    Calls Tryz.prog 113 #[.slice (some ⟨blk, off, none⟩) d.size cap, .int .i64 a, .int .i64 m, .int .i64 b, .func (.func g) #[] cb] w fun e w' => e = .returned (.tuple #[]) ∧ ∃ d', PermIn a b d d' ∧ SortedIn (ltOf cf) a b d' ∧ SWK (QI.cells (Q := Q)) 2 w0 blk off d' w' := by
  have mixed : Tryz.prog.follows .mixedOrders = true := by kernel_rfl
  have HC := hid hC
  have HR := hid R
  have HS := hid hs
  have HSR := hid hr
  have HM := hid hm
  have S0 := hid S
  have hdz : d.size < 4611686018427387904 := by omega
  have h1 : a + 1 ≤ m := by omega
  have t1 : ((m : Int) - (a : Int) == 1) = true := by simp; omega
  have w1 : IntKind.i64.wrap ((m : Int) - (a : Int)) = (m : Int) - a := IntWalk.i64_in _ (by omega)
  clear hC R hs hr S hm
  go_enter Tryz.func113, Tryz.ntmps113
  go_wp2_with fail
  -- STOP-la
  go_loopg [10, 11] (b - m) (fun gg s10 s11 wr => ∃ i j : Nat, s10 = .int .i64 i ∧ s11 = .int .i64 j ∧ m ≤ i ∧ i ≤ j ∧ j ≤ b ∧ j - i ≤ gg + 0 ∧ Hid (i = m ∨ ltOf cf d[i - 1]! d[a]! = true) ∧ Hid (j = b ∨ ltOf cf d[j]! d[a]! = false) ∧ Hid (SWK (QI.cells (Q := Q)) 2 w0 blk off d wr))
  case atStart => exact ⟨m, b, rfl, rfl, Nat.le_refl _, by omega, Nat.le_refl _, by omega, hid (.inl rfl), hid (.inl rfl), S0⟩
  case round =>
    clear S0 t1 w1
    obtain ⟨i, j, rfl, rfl, hi, hij, hj, hg, H1, H2, S1h⟩ := hrel
    by_cases hlt : i < j
    · have S1 := S1h.out
      have c0 := fun n' os' => (SWK.at2 (S1.grown n' os') HR.out HS.out ((i + j) / 2) (by omega)).1
      have c1 := fun n' os' => (SWK.at2 (S1.grown n' os') HR.out HS.out ((i + j) / 2) (by omega)).2.1
      have k0 := fun n' os' => (SWK.at2 (S1.grown n' os') HR.out HS.out (a) (by omega)).1
      have k1 := fun n' os' => (SWK.at2 (S1.grown n' os') HR.out HS.out (a) (by omega)).2.1
      have hcg := fun n' os' => S1.cmp HC.out HS.out d[(i + j) / 2]! d[a]! n' os'
      have SG := hid (fun n' os' => S1.grown n' os')
      have HLV := hid (show ltOf cf d[(i + j) / 2]! d[a]! = decide (cf d[(i + j) / 2]! d[a]! < 0) from rfl)
      obtain ⟨x, hx⟩ : ∃ x, x = d[(i + j) / 2]! := ⟨_, rfl⟩
      obtain ⟨y, hy⟩ : ∃ y, y = d[a]! := ⟨_, rfl⟩
      rw [← hx] at c0 c1 hcg
      rw [← hy] at k0 k1 hcg
      have HX := hid hx
      have HY := hid hy
      clear hx hy
      obtain ⟨cv, hcv⟩ : ∃ cv, cv = cf x y := ⟨_, rfl⟩
      rw [← hcv] at hcg
      have HCV := hid hcv
      clear hcv
      obtain ⟨⟨xr, xA, xk, xn⟩, hqx⟩ := x
      obtain ⟨⟨yr, yA, yk, yn⟩, hqy⟩ := y
      simp only [QI.cells, IR.cells] at c0 c1 k0 k1 hcg
      have ea : (((i : Int) + (j : Int)) / 2).toNat = (i + j) / 2 := by omega
      have ra : IntKind.i64.wrap (((i : Int) + (j : Int)) / 2) = ((i : Int) + (j : Int)) / 2 := by rw [IntKind.wrap_i64]; omega
      have pa : (0 : Int) ≤ ((i : Int) + (j : Int)) / 2 := by omega
      have ba : ((i : Int) + (j : Int)) / 2 < (d.size : Int) := by omega
      have pb : (0 : Int) ≤ (a : Int) := by omega
      have bb : (a : Int) < (d.size : Int) := by omega
      clear S1
      by_cases hlv : cv < 0
      · go_wp2_with fail
        -- STOP-lb
        go_quiet_grown (first | (go_at_fn g; refine Calls.grown_of (hcg _ _)))
        clear c0 c1 k0 k1 hcg
        go_wp2
        go_roundg (j - ((i + j) / 2 + 1))
        case measure => omega
        case rel => exact ⟨(i + j) / 2 + 1, j, by congr 1 <;> omega, rfl, by omega, by omega, by omega, by omega, hid (.inr (by rw [Nat.add_sub_cancel, HLV.out, ← HX.out, ← HY.out, ← HCV.out]; exact decide_eq_true hlv)), H2, hid (SG.out nq osq)⟩
      · have hlvd : decide (cv < 0) = false := decide_eq_false hlv
        go_wp2_with fail
        go_quiet_grown (first | (go_at_fn g; refine Calls.grown_of (hcg _ _)))
        clear c0 c1 k0 k1 hcg
        go_wp2
        go_roundg ((i + j) / 2 - i)
        case measure => omega
        case rel => exact ⟨i, (i + j) / 2, rfl, by congr 1 <;> omega, by omega, by omega, by omega, by omega, H1, hid (.inr (by rw [HLV.out, ← HX.out, ← HY.out, ← HCV.out]; exact decide_eq_false (by omega))), hid (SG.out nq osq)⟩
    · have e : j = i := by omega
      subst e
      have hmg := hid (merge_up hS (d := d) (a := a) (b := b) (i := j) (by omega) (by omega) hb (by rw [← HM.out]; exact HSR.out) (by rcases H1.out with h | h; exact .inl (by rw [h]; exact HM.out); exact .inr h) H2.out)
      have wj : IntKind.i64.wrap ((j : Int) - 1) = (j : Int) - 1 := IntWalk.i64_in _ (by omega)
      clear H1 H2
      go_wp2_with fail
      -- STOP-lc
      go_loopw [13] (fun v wr => ∃ k : Nat, a ≤ k ∧ k + 1 ≤ j ∧ v = .int .i64 k ∧ Hid (SWK (QI.cells (Q := Q)) 2 w0 blk off (upTo a (k - a) d) wr)) (fun v _ => j - (intOf v).toNat)
      case atStart => exact ⟨a, by omega, by omega, rfl, by rw [Nat.sub_self]; exact S1h⟩
      case round =>
        clear S1h
        obtain ⟨k, hk, hkj, rfl, S2h⟩ := hrel
        by_cases hlt2 : k + 1 < j
        · have S1 := S2h.out
          have hds := upTo_size a d (k - a)
          have e1 : (upTo a (k - a) d).size = d0.size := hds.trans HS.out
          have HQ : Hid (upTo a (k + 1 - a) d = swp (upTo a (k - a) d) k (k + 1)) := hid (by
            rw [show k + 1 - a = (k - a) + 1 by omega, upTo, show a + (k - a) = k by omega])
          obtain ⟨D, hD⟩ : ∃ D, D = upTo a (k - a) d := ⟨_, rfl⟩
          rw [← hD] at S1 hds e1 HQ
          clear hD S2h
          obtain ⟨c0, c1, f0, f1⟩ := SWK.at2 S1 HR.out e1 (k) (by omega)
          obtain ⟨k0, k1, h0, h1⟩ := SWK.at2 S1 HR.out e1 (k + 1) (by omega)
          have S2 := hid (S1.swapped HR.out (k) (k + 1) (by omega) (by omega))
          generalize D[k]! = x at *
          generalize D[k + 1]! = y at *
          obtain ⟨⟨xr, xA, xk, xn⟩, hqx⟩ := x
          obtain ⟨⟨yr, yA, yk, yn⟩, hqy⟩ := y
          simp only at c0 c1 k0 k1
          have pa : (0 : Int) ≤ (k : Int) := by omega
          have ba : (k : Int) < (d.size : Int) := by omega
          have eb : ((k : Int) + 1).toNat = k + 1 := by omega
          have rb : IntKind.i64.wrap ((k : Int) + 1) = (k : Int) + 1 := by rw [IntKind.wrap_i64]; omega
          have pb : (0 : Int) ≤ (k : Int) + 1 := by omega
          have bb : (k : Int) + 1 < (d.size : Int) := by omega
          have n0 : (off + (k) * 2 = off + (k + 1) * 2) = False := by simp; omega
          have m0 : (off + (k + 1) * 2 = off + (k) * 2) = False := by simp; omega
          have n1 : (off + (k) * 2 = off + (k + 1) * 2 + 1) = False := by simp; omega
          have m1 : (off + (k + 1) * 2 + 1 = off + (k) * 2) = False := by simp; omega
          have n2 : (off + (k) * 2 + 1 = off + (k + 1) * 2) = False := by simp; omega
          have m2 : (off + (k + 1) * 2 = off + (k) * 2 + 1) = False := by simp; omega
          have n3 : (off + (k) * 2 + 1 = off + (k + 1) * 2 + 1) = False := by simp; omega
          have m3 : (off + (k + 1) * 2 + 1 = off + (k) * 2 + 1) = False := by simp; omega
          have lz : (k : Int) < (j : Int) - 1 := by omega
          clear hds e1 S1
          go_wp2_with fail
          go_big_region
          go_wp2
          go_roundw
          case rel => exact ⟨k + 1, by omega, by omega, by go_num, by rw [HQ.out]; exact S2⟩
          case measure => simp [intOf]; omega
        · have e : k = j - 1 := by omega
          have lz : ¬ (k : Int) < (j : Int) - 1 := by omega
          have lz2 : (j : Int) - 1 ≤ (k : Int) := by omega
          have lz3 : decide ((k : Int) < (j : Int) - 1) = false := decide_eq_false lz
          have lz4 : (j : Int) ≤ (k : Int) + 1 := by omega
          have HE := hid e
          clear e
          go_wp2
          (try simp only [Exit.inBlock, Exit.then])
          refine bodyPost_ret (results_none rfl _ _ _) rfl ?_
          have S3 := S2h.out
          rw [HE.out] at S3
          exact ⟨rfl, _, hmg.out.1, hmg.out.2, S3⟩

set_option maxHeartbeats 4000000 in
set_option maxRecDepth 100000 in
theorem sym_right (cf : QI Q → QI Q → Int) (g : Nat) (cb : Array Value) (blk off cap : Nat) (d0 : Array (QI Q)) (w0 : World) (eg : ∀ args w, (callFunc g args).run Tryz.prog w = .ok (.enter g args) w) (hC : CmpLays Tryz.prog g cb (QI.cells (Q := Q)) 2 cf blk off d0.size w0)
    (R : RowK (QI.cells (Q := Q)) 2 w0 blk off d0) (hS : SWO (ltOf cf)) (hsz : d0.size < 4611686018427387904) (a m b : Nat) (d : Array (QI Q)) (w : World)
    (ham : a + 1 < m) (hmb : b = m + 1) (hb : b ≤ d.size) (hs : d.size = d0.size) (hl : SortedIn (ltOf cf) a m d) (S : SWK (QI.cells (Q := Q)) 2 w0 blk off d w) :
    Calls Tryz.prog 113 #[.slice (some ⟨blk, off, none⟩) d.size cap, .int .i64 a, .int .i64 m, .int .i64 b, .func (.func g) #[] cb] w fun e w' => e = .returned (.tuple #[]) ∧ ∃ d', PermIn a b d d' ∧ SortedIn (ltOf cf) a b d' ∧ SWK (QI.cells (Q := Q)) 2 w0 blk off d' w' := by
  have mixed : Tryz.prog.follows .mixedOrders = true := by kernel_rfl
  have HC := hid hC
  have HR := hid R
  have HS := hid hs
  have HSL := hid hl
  have HM := hid hmb
  have S0 := hid S
  have hdz : d.size < 4611686018427387904 := by omega
  have hm2 : m < d.size := by omega
  have t1 : ((m : Int) - (a : Int) == 1) = false := by simp; omega
  have t2 : ((b : Int) - (m : Int) == 1) = true := by simp; omega
  have w1 : IntKind.i64.wrap ((m : Int) - (a : Int)) = (m : Int) - a := IntWalk.i64_in _ (by omega)
  have w2 : IntKind.i64.wrap ((b : Int) - (m : Int)) = (b : Int) - m := IntWalk.i64_in _ (by omega)
  clear hC R hs hl S hmb
  go_enter Tryz.func113, Tryz.ntmps113
  go_wp2_with fail
  go_loopg [14, 15] (m - a) (fun gg s14 s15 wr => ∃ i j : Nat, s14 = .int .i64 i ∧ s15 = .int .i64 j ∧ a ≤ i ∧ i ≤ j ∧ j ≤ m ∧ j - i ≤ gg + 0 ∧ Hid (i = a ∨ ltOf cf d[m]! d[i - 1]! = false) ∧ Hid (j = m ∨ ltOf cf d[m]! d[j]! = true) ∧ Hid (SWK (QI.cells (Q := Q)) 2 w0 blk off d wr))
  case atStart => exact ⟨a, m, rfl, rfl, Nat.le_refl _, by omega, Nat.le_refl _, by omega, hid (.inl rfl), hid (.inl rfl), S0⟩
  case round =>
    clear S0 t1 w1 t2 w2
    obtain ⟨i, j, rfl, rfl, hi, hij, hj, hg, H1, H2, S1h⟩ := hrel
    by_cases hlt : i < j
    · have S1 := S1h.out
      have c0 := fun n' os' => (SWK.at2 (S1.grown n' os') HR.out HS.out (m) (by omega)).1
      have c1 := fun n' os' => (SWK.at2 (S1.grown n' os') HR.out HS.out (m) (by omega)).2.1
      have k0 := fun n' os' => (SWK.at2 (S1.grown n' os') HR.out HS.out ((i + j) / 2) (by omega)).1
      have k1 := fun n' os' => (SWK.at2 (S1.grown n' os') HR.out HS.out ((i + j) / 2) (by omega)).2.1
      have hcg := fun n' os' => S1.cmp HC.out HS.out d[m]! d[(i + j) / 2]! n' os'
      have SG := hid (fun n' os' => S1.grown n' os')
      have HLV := hid (show ltOf cf d[m]! d[(i + j) / 2]! = decide (cf d[m]! d[(i + j) / 2]! < 0) from rfl)
      obtain ⟨x, hx⟩ : ∃ x, x = d[m]! := ⟨_, rfl⟩
      obtain ⟨y, hy⟩ : ∃ y, y = d[(i + j) / 2]! := ⟨_, rfl⟩
      rw [← hx] at c0 c1 hcg
      rw [← hy] at k0 k1 hcg
      have HX := hid hx
      have HY := hid hy
      clear hx hy
      obtain ⟨cv, hcv⟩ : ∃ cv, cv = cf x y := ⟨_, rfl⟩
      rw [← hcv] at hcg
      have HCV := hid hcv
      clear hcv
      obtain ⟨⟨xr, xA, xk, xn⟩, hqx⟩ := x
      obtain ⟨⟨yr, yA, yk, yn⟩, hqy⟩ := y
      simp only [QI.cells, IR.cells] at c0 c1 k0 k1 hcg
      have pa : (0 : Int) ≤ (m : Int) := by omega
      have ba : (m : Int) < (d.size : Int) := by omega
      have eb : (((i : Int) + (j : Int)) / 2).toNat = (i + j) / 2 := by omega
      have rb : IntKind.i64.wrap (((i : Int) + (j : Int)) / 2) = ((i : Int) + (j : Int)) / 2 := by rw [IntKind.wrap_i64]; omega
      have pb : (0 : Int) ≤ ((i : Int) + (j : Int)) / 2 := by omega
      have bb : ((i : Int) + (j : Int)) / 2 < (d.size : Int) := by omega
      clear S1
      by_cases hlv : cv < 0
      · go_wp2_with fail
        go_quiet_grown (first | (go_at_fn g; refine Calls.grown_of (hcg _ _)))
        clear c0 c1 k0 k1 hcg
        go_wp2
        go_roundg ((i + j) / 2 - i)
        case measure => omega
        case rel => exact ⟨i, (i + j) / 2, rfl, by congr 1 <;> omega, by omega, by omega, by omega, by omega, H1, hid (.inr (by rw [HLV.out, ← HX.out, ← HY.out, ← HCV.out]; exact decide_eq_true hlv)), hid (SG.out nq osq)⟩
      · have hlvd : decide (cv < 0) = false := decide_eq_false hlv
        go_wp2_with fail
        go_quiet_grown (first | (go_at_fn g; refine Calls.grown_of (hcg _ _)))
        clear c0 c1 k0 k1 hcg
        go_wp2
        go_roundg (j - ((i + j) / 2 + 1))
        case measure => omega
        case rel => exact ⟨(i + j) / 2 + 1, j, by congr 1 <;> omega, rfl, by omega, by omega, by omega, by omega, hid (.inr (by rw [Nat.add_sub_cancel, HLV.out, ← HX.out, ← HY.out, ← HCV.out]; exact decide_eq_false (by omega))), H2, hid (SG.out nq osq)⟩
    · have e : j = i := by omega
      subst e
      have hmg := hid (merge_down hS (d := d) (a := a) (m := m) (i := j) (by omega) (by omega) (by omega) HSL.out H1.out H2.out)
      clear H1 H2
      go_wp2_with fail
      go_loopw [17] (fun v wr => ∃ k : Nat, j ≤ k ∧ k ≤ m ∧ v = .int .i64 k ∧ Hid (SWK (QI.cells (Q := Q)) 2 w0 blk off (downTo m (m - k) d) wr)) (fun v _ => (intOf v).toNat)
      case atStart => exact ⟨m, by omega, by omega, rfl, by rw [Nat.sub_self]; exact S1h⟩
      case round =>
        clear S1h
        obtain ⟨k, hk, hkj, rfl, S2h⟩ := hrel
        by_cases hlt2 : j < k
        · have S1 := S2h.out
          have hds := downTo_size m d (m - k)
          have e1 : (downTo m (m - k) d).size = d0.size := hds.trans HS.out
          have HQ : Hid (downTo m (m - (k - 1)) d = swp (downTo m (m - k) d) k (k - 1)) := hid (by
            rw [show m - (k - 1) = (m - k) + 1 by omega, downTo, show m - (m - k) = k by omega])
          obtain ⟨D, hD⟩ : ∃ D, D = downTo m (m - k) d := ⟨_, rfl⟩
          rw [← hD] at S1 hds e1 HQ
          clear hD S2h
          obtain ⟨c0, c1, f0, f1⟩ := SWK.at2 S1 HR.out e1 (k) (by omega)
          obtain ⟨k0, k1, h0, h1⟩ := SWK.at2 S1 HR.out e1 (k - 1) (by omega)
          have S2 := hid (S1.swapped HR.out (k) (k - 1) (by omega) (by omega))
          generalize D[k]! = x at *
          generalize D[k - 1]! = y at *
          obtain ⟨⟨xr, xA, xk, xn⟩, hqx⟩ := x
          obtain ⟨⟨yr, yA, yk, yn⟩, hqy⟩ := y
          simp only at c0 c1 k0 k1
          have pa : (0 : Int) ≤ (k : Int) := by omega
          have ba : (k : Int) < (d.size : Int) := by omega
          have eb : ((k : Int) - 1).toNat = k - 1 := by omega
          have rb : IntKind.i64.wrap ((k : Int) - 1) = (k : Int) - 1 := by rw [IntKind.wrap_i64]; omega
          have pb : (0 : Int) ≤ (k : Int) - 1 := by omega
          have bb : (k : Int) - 1 < (d.size : Int) := by omega
          have n0 : (off + (k) * 2 = off + (k - 1) * 2) = False := by simp; omega
          have m0 : (off + (k - 1) * 2 = off + (k) * 2) = False := by simp; omega
          have n1 : (off + (k) * 2 = off + (k - 1) * 2 + 1) = False := by simp; omega
          have m1 : (off + (k - 1) * 2 + 1 = off + (k) * 2) = False := by simp; omega
          have n2 : (off + (k) * 2 + 1 = off + (k - 1) * 2) = False := by simp; omega
          have m2 : (off + (k - 1) * 2 = off + (k) * 2 + 1) = False := by simp; omega
          have n3 : (off + (k) * 2 + 1 = off + (k - 1) * 2 + 1) = False := by simp; omega
          have m3 : (off + (k - 1) * 2 + 1 = off + (k) * 2 + 1) = False := by simp; omega
          have zk : ((k - 1 : Nat) : Int) = (k : Int) - 1 := by omega
          have ZK := hid zk
          clear hds e1 S1 zk
          go_wp2_with fail
          go_big_region
          go_wp2
          go_roundw
          case rel => exact ⟨k - 1, by omega, by omega, by rw [ZK.out], by rw [HQ.out]; exact S2⟩
          case measure => simp [intOf]; omega
        · have e : k = j := by omega
          have HE := hid e
          clear e
          go_wp2
          (try simp only [Exit.inBlock, Exit.then])
          refine bodyPost_ret (results_none rfl _ _ _) rfl ?_
          have S3 := S2h.out
          rw [HE.out] at S3
          refine ⟨rfl, _, ?_, ?_, S3⟩
          · rw [HM.out]; exact hmg.out.1
          · rw [HM.out]; exact hmg.out.2
end Go.Proofs.YtldlmkfigjicgaaGreatDoor
/- slices.SortStableFunc at items: symMerge, whole. -/
namespace Go.Proofs.YtldlmkfigjicgaaGreatDoor
set_option linter.unusedVariables false
open Go.ChangeShapes Go.WideShapes Go.ChangeAt Go.RowKit Go.Shelf Go.Lib Go.Sort
variable {Q : IR → Prop} [Inhabited (QI Q)]

set_option maxHeartbeats 4000000 in
set_option maxRecDepth 100000 in
theorem sym_main (cf : QI Q → QI Q → Int) (g : Nat) (cb : Array Value) (blk off cap : Nat) (d0 : Array (QI Q)) (w0 : World) (eg : ∀ args w, (callFunc g args).run Tryz.prog w = .ok (.enter g args) w) (hC : CmpLays Tryz.prog g cb (QI.cells (Q := Q)) 2 cf blk off d0.size w0)
    (R : RowK (QI.cells (Q := Q)) 2 w0 blk off d0) (hS : SWO (ltOf cf)) (hsz : d0.size < 4611686018427387904) (a m b : Nat) (d : Array (QI Q)) (w : World)
    (ham : a + 1 < m) (hmb : m + 1 < b) (hb : b ≤ d.size) (hs : d.size = d0.size) (hl : SortedIn (ltOf cf) a m d) (hr : SortedIn (ltOf cf) m b d) (S : SWK (QI.cells (Q := Q)) 2 w0 blk off d w)
    (ih : ∀ (a' m' b' : Nat) (d : Array (QI Q)) (w : World), b' - a' < b - a → a' < m' → m' < b' → b' ≤ d.size → d.size = d0.size → SortedIn (ltOf cf) a' m' d → SortedIn (ltOf cf) m' b' d → SWK (QI.cells (Q := Q)) 2 w0 blk off d w →
      Calls Tryz.prog 113 #[.slice (some ⟨blk, off, none⟩) d.size cap, .int .i64 a', .int .i64 m', .int .i64 b', .func (.func g) #[] cb] w fun e w' => e = .returned (.tuple #[]) ∧ ∃ d', PermIn a' b' d d' ∧ SortedIn (ltOf cf) a' b' d' ∧ SWK (QI.cells (Q := Q)) 2 w0 blk off d' w') :
    Calls Tryz.prog 113 #[.slice (some ⟨blk, off, none⟩) d.size cap, .int .i64 a, .int .i64 m, .int .i64 b, .func (.func g) #[] cb] w fun e w' => e = .returned (.tuple #[]) ∧ ∃ d', PermIn a b d d' ∧ SortedIn (ltOf cf) a b d' ∧ SWK (QI.cells (Q := Q)) 2 w0 blk off d' w' := by
  have mixed : Tryz.prog.follows .mixedOrders = true := by kernel_rfl
  have HC := hid hC
  have HR := hid R
  have HS := hid hs
  have HSL := hid hl
  have HSR := hid hr
  have HIH := hid ih
  have S0 := hid S
  have hdz : d.size < 4611686018427387904 := by omega
  have t1 : ((m : Int) - (a : Int) == 1) = false := by simp; omega
  have t2 : ((b : Int) - (m : Int) == 1) = false := by simp; omega
  have w1 : IntKind.i64.wrap ((m : Int) - (a : Int)) = (m : Int) - a := IntWalk.i64_in _ (by omega)
  have w2 : IntKind.i64.wrap ((b : Int) - (m : Int)) = (b : Int) - m := IntWalk.i64_in _ (by omega)
  obtain ⟨mid, hmid⟩ : ∃ q : Nat, q = (a + b) / 2 := ⟨_, rfl⟩
  have zm : ((a : Int) + (b : Int)) / 2 = (mid : Int) := by omega
  have w3 : IntKind.i64.wrap ((mid : Int) + (m : Int)) = (mid : Int) + m := IntWalk.i64_in _ (by omega)
  have w4 : IntKind.i64.wrap ((mid : Int) + (m : Int) - (b : Int)) = (mid : Int) + m - b := IntWalk.i64_in _ (by omega)
  have w5 : IntKind.i64.wrap ((mid : Int) + (m : Int) - 1) = (mid : Int) + m - 1 := IntWalk.i64_in _ (by omega)
  have lm1 : 2 * mid ≤ a + b := by omega
  have lm2 : a + b ≤ 2 * mid + 1 := by omega
  clear hC R hs hl hr S ih hmid
  go_enter Tryz.func113, Tryz.ntmps113
  by_cases hmm : mid < m
  all_goals
    go_wp2_with fail
    -- STOP-ma
    go_loopg [20, 21] (b - a) (fun gg s20 s21 wr => ∃ s r : Nat, s20 = .int .i64 s ∧ s21 = .int .i64 r ∧ a ≤ s ∧ s ≤ r ∧ r ≤ m ∧ r ≤ mid ∧ mid + m ≤ b + s ∧ r - s ≤ gg + 0 ∧ Hid (s = a ∨ mid + m - s = b ∨ ltOf cf d[mid + m - s]! d[s - 1]! = false) ∧ Hid (r = m ∨ mid + m - r = m ∨ ltOf cf d[mid + m - r - 1]! d[r]! = true) ∧ Hid (SWK (QI.cells (Q := Q)) 2 w0 blk off d wr))
    case atStart =>
      first
        | exact ⟨mid + m - b, mid, by congr 1 <;> omega, rfl, by omega, by omega, by omega, by omega, by omega, by omega, hid (.inr (.inl (by omega))), hid (.inr (.inl (by omega))), S0⟩
        | exact ⟨a, m, rfl, rfl, by omega, by omega, by omega, by omega, by omega, by omega, hid (.inl rfl), hid (.inl rfl), S0⟩
    case round =>
      clear S0 t1 t2 w1 w2 w4
      obtain ⟨s, r, rfl, rfl, hsa, hsr, hrm, hrq, hsb, hg, H1, H2, S1h⟩ := hrel
      by_cases hlt : s < r
      · have S1 := S1h.out
        obtain ⟨pp, hpp⟩ : ∃ pp, pp = mid + m - 1 - (s + r) / 2 := ⟨_, rfl⟩
        have hpl : pp < d.size := by omega
        have c0 := fun n' os' => (SWK.at2 (S1.grown n' os') HR.out HS.out (pp) (by omega)).1
        have c1 := fun n' os' => (SWK.at2 (S1.grown n' os') HR.out HS.out (pp) (by omega)).2.1
        have k0 := fun n' os' => (SWK.at2 (S1.grown n' os') HR.out HS.out ((s + r) / 2) (by omega)).1
        have k1 := fun n' os' => (SWK.at2 (S1.grown n' os') HR.out HS.out ((s + r) / 2) (by omega)).2.1
        have hcg := fun n' os' => S1.cmp HC.out HS.out d[pp]! d[(s + r) / 2]! n' os'
        have SG := hid (fun n' os' => S1.grown n' os')
        have HLV := hid (show ltOf cf d[pp]! d[(s + r) / 2]! = decide (cf d[pp]! d[(s + r) / 2]! < 0) from rfl)
        obtain ⟨x, hx⟩ : ∃ x, x = d[pp]! := ⟨_, rfl⟩
        obtain ⟨y, hy⟩ : ∃ y, y = d[(s + r) / 2]! := ⟨_, rfl⟩
        rw [← hx] at c0 c1 hcg
        rw [← hy] at k0 k1 hcg
        have HX := hid hx
        have HY := hid hy
        clear hx hy
        obtain ⟨cv, hcv⟩ : ∃ cv, cv = cf x y := ⟨_, rfl⟩
        rw [← hcv] at hcg
        have HCV := hid hcv
        clear hcv
        obtain ⟨⟨xr, xA, xk, xn⟩, hqx⟩ := x
        obtain ⟨⟨yr, yA, yk, yn⟩, hqy⟩ := y
        simp only [QI.cells, IR.cells] at c0 c1 k0 k1 hcg
        have pa : (0 : Int) ≤ (pp : Int) := by omega
        have ba : (pp : Int) < (d.size : Int) := by omega
        have eb : (((s : Int) + (r : Int)) / 2).toNat = (s + r) / 2 := by omega
        have rb : IntKind.i64.wrap (((s : Int) + (r : Int)) / 2) = ((s : Int) + (r : Int)) / 2 := by rw [IntKind.wrap_i64]; omega
        have pb : (0 : Int) ≤ ((s : Int) + (r : Int)) / 2 := by omega
        have bb : ((s : Int) + (r : Int)) / 2 < (d.size : Int) := by omega
        have ep : Hid (pp = mid + m - (s + r) / 2 - 1) := hid (by omega)
        have ep2 : Hid (pp = mid + m - ((s + r) / 2 + 1)) := hid (by omega)
        have wh : IntKind.i64.wrap ((mid : Int) + (m : Int) - 1 - ((s : Int) + (r : Int)) / 2) = (pp : Int) := by rw [IntWalk.i64_in _ (by omega)]; omega
        clear hpp
        clear S1
        by_cases hlv : cv < 0
        · go_wp2_with fail
          go_quiet_grown (first | (go_at_fn g; refine Calls.grown_of (hcg _ _)))
          clear c0 c1 k0 k1 hcg wh
          go_wp2
          go_roundg ((s + r) / 2 - s)
          case measure => omega
          case rel => exact ⟨s, (s + r) / 2, rfl, by congr 1 <;> omega, by omega, by omega, by omega, by omega, by omega, by omega, H1, hid (.inr (.inr (by rw [← ep.out, HLV.out, ← HX.out, ← HY.out, ← HCV.out]; exact decide_eq_true hlv))), hid (SG.out nq osq)⟩
        · have hlvd : decide (cv < 0) = false := decide_eq_false hlv
          go_wp2_with fail
          go_quiet_grown (first | (go_at_fn g; refine Calls.grown_of (hcg _ _)))
          clear c0 c1 k0 k1 hcg wh
          go_wp2
          go_roundg (r - ((s + r) / 2 + 1))
          case measure => omega
          case rel => exact ⟨(s + r) / 2 + 1, r, by congr 1 <;> omega, rfl, by omega, by omega, by omega, by omega, by omega, by omega, hid (.inr (.inr (by rw [Nat.add_sub_cancel, ← ep2.out, HLV.out, ← HX.out, ← HY.out, ← HCV.out]; exact decide_eq_false (by omega)))), H2, hid (SG.out nq osq)⟩
      · have e : r = s := by omega
        subst e
        obtain ⟨e, he⟩ : ∃ e, e = mid + m - r := ⟨_, rfl⟩
        have ze : (mid : Int) + (m : Int) - (r : Int) = (e : Int) := by omega
        have we : IntKind.i64.wrap ((mid : Int) + (m : Int) - (r : Int)) = (e : Int) := by rw [← ze]; exact IntWalk.i64_in _ (by omega)
        have hre : r + e = mid + m := by omega
        have G1 : Hid (r = a ∨ e = b ∨ ltOf cf d[e]! d[r - 1]! = false) := hid (by rw [he]; exact H1.out)
        have G2 : Hid (r = m ∨ e = m ∨ ltOf cf d[e - 1]! d[r]! = true) := hid (by rw [he]; exact H2.out)
        have HRE := hid hre
        have l1 : m ≤ e := by omega
        have l2 : e ≤ b := by omega
        have l3 : mid ≤ e := by omega
        have l4 : a ≤ mid := by omega
        have l5 : mid ≤ b := by omega
        have HMR := hid (fun d1 (h : Rot d r m e d1) => merge_rot hS hsa hrm l1 l2 hre hb HSL.out HSR.out h G1.out G2.out)
        clear H1 H2 he ze hre G1 G2 hlt hsr hg
        have HEE := hid (show e ≤ b from l2)
        -- STOP-mb
        go_upto_region 39 with fail
        go_cut [185] from 178 to 185 (fun s wx => s = .bool (decide (r < m) && decide (m < e)) ∧ wr = wx)
        case first =>
          by_cases q1 : r < m
          · by_cases q2 : m < e
            all_goals
              go_wp2
              go_meet
              case rel => exact ⟨by simp [q1, q2], rfl⟩
          · go_wp2
            all_goals
              go_meet
              case rel => exact ⟨by simp [q1], rfl⟩
        case rest =>
         obtain ⟨rfl, rfl⟩ := hcut
         go_upto_if 185 with fail
         go_cut [] from 185 to 191 (fun wx => ∃ d1 : Array (QI Q), Hid (Rot d r m e d1) ∧ Hid (PermIn a b d d1) ∧ Hid (SWK (QI.cells (Q := Q)) 2 w0 blk off d1 wx))
         case first =>
           by_cases q1 : r < m
           · by_cases q2 : m < e
             · have hc := rotate g cb blk off cap r m e d0 d w0 wr HR.out HS.out S1h.out q1 q2 (by omega) hdz
               have HC2 := hid hc
               clear hc
               go_wp2_with fail
               -- STOP-mc
               refine HC2.out.mono ?_
               rintro e' w' ⟨rfl, d1, hrot, hperm, S2⟩
               have HA := hid hrot
               have HB := hid hperm
               have HS2 := hid S2
               clear hrot hperm S2
               go_wp2
               go_meet
               case rel => exact ⟨d1, HA, hid (perm_mono hsa HEE.out hb HB.out), HS2⟩
             · go_wp2
               all_goals
                 go_meet
                 case rel => exact ⟨d, hid (rot_none hrm l1 (.inr (by omega))), hid (perm_refl _ _ _), S1h⟩
           · go_wp2
             all_goals
               go_meet
               case rel => exact ⟨d, hid (rot_none hrm l1 (.inl (by omega))), hid (perm_refl _ _ _), S1h⟩
         case rest =>
           obtain ⟨d1, HROT, HP1, HS1⟩ := hcut
           obtain ⟨wx, rfl⟩ : ∃ wx : World, wx = wc := ⟨_, rfl⟩
           obtain ⟨m1, m2, m3, m4, m5⟩ := HMR.out d1 HROT.out
           have hz1 : d1.size = d.size := HROT.out.1
           have M1 := hid m1
           have M2 := hid m2
           have M3 := hid m3
           have M4 := hid m4
           have M5 := hid m5
           have HZ1 := hid hz1
           have lmb : mid < b := by omega
           clear m1 m2 m3 m4 m5 HMR HROT S1h hz1
           go_upto_region 41 with fail
           go_cut [199] from 192 to 199 (fun s wz => s = .bool (decide (a < r) && decide (r < mid)) ∧ wx = wz)
           case first =>
             by_cases q1 : a < r
             · by_cases q2 : r < mid
               all_goals
                 go_wp2
                 go_meet
                 case rel => exact ⟨by simp [q1, q2], rfl⟩
             · go_wp2
               all_goals
                 go_meet
                 case rel => exact ⟨by simp [q1], rfl⟩
           case rest =>
            obtain ⟨rfl, rfl⟩ := hcut
            go_upto_if 199 with fail
            go_cut [] from 199 to 205 (fun wx => ∃ d2 : Array (QI Q), Hid (PermIn a mid d1 d2) ∧ Hid (SortedIn (ltOf cf) a mid d2) ∧ Hid (SWK (QI.cells (Q := Q)) 2 w0 blk off d2 wx))
            case first =>
              by_cases q1 : a < r
              · by_cases q2 : r < mid
                · have hc := HIH.out a r mid d1 wx (by omega) q1 q2 (by rw [HZ1.out]; omega) (HZ1.out.trans HS.out) M1.out M2.out HS1.out
                  rw [HZ1.out] at hc
                  have HC2 := hid hc
                  clear hc
                  go_wp2_with fail
                  refine HC2.out.mono ?_
                  rintro e' w' ⟨rfl, d2, hperm, hsort, S2⟩
                  have HA := hid hperm
                  have HB := hid hsort
                  have HS2 := hid S2
                  clear hperm hsort S2
                  go_wp2
                  go_meet
                  case rel => exact ⟨d2, HA, HB, HS2⟩
                · have e1 : Hid (r = mid) := hid (by omega)
                  go_wp2
                  all_goals
                    go_meet
                    case rel => exact ⟨d1, hid (perm_refl _ _ _), hid (by rw [← e1.out]; exact M1.out), HS1⟩
              · have e1 : Hid (r = a) := hid (by omega)
                go_wp2
                all_goals
                  go_meet
                  case rel => exact ⟨d1, hid (perm_refl _ _ _), hid (by have := M2.out; rwa [e1.out] at this), HS1⟩
            case rest =>
              obtain ⟨d2, HP2, HQ2, HS2⟩ := hcut
              obtain ⟨wy, rfl⟩ : ∃ wx : World, wx = wc := ⟨_, rfl⟩
              have HZ2 : Hid (d2.size = d.size) := hid (HP2.out.1.trans HZ1.out)
              have N3 := hid (sorted_perm M3.out HP2.out (.inr (Nat.le_refl _)))
              have N4 := hid (sorted_perm M4.out HP2.out (.inr l3))
              clear M1 M2 M3 M4 HS1
              by_cases q1 : mid < e
              · by_cases q2 : e < b
                · have hc := HIH.out mid e b d2 wy (by omega) q1 q2 (by rw [HZ2.out]; exact hb) (HZ2.out.trans HS.out) N3.out N4.out HS2.out
                  rw [HZ2.out] at hc
                  have HC2 := hid hc
                  clear hc
                  go_wp2_with fail
                  refine HC2.out.mono ?_
                  rintro e' w' ⟨rfl, d3, hperm, hsort, S2⟩
                  have HA := hid hperm
                  have HB := hid hsort
                  have HS3 := hid S2
                  clear hperm hsort S2
                  go_wp2
                  go_end0
                  obtain ⟨r1, r2⟩ := merge_end hS l4 l5 (by rw [HZ1.out]; exact hb) M5.out HP2.out HQ2.out HA.out HB.out
                  exact ⟨rfl, d3, perm_trans HP1.out r1, r2, HS3.out⟩
                · have e1 : Hid (e = b) := hid (by omega)
                  go_wp2
                  go_end0
                  obtain ⟨r1, r2⟩ := merge_end hS l4 l5 (by rw [HZ1.out]; exact hb) M5.out HP2.out HQ2.out (perm_refl _ _ _) (by have := N3.out; rwa [e1.out] at this)
                  exact ⟨rfl, d2, perm_trans HP1.out r1, r2, HS2.out⟩
              · have e1 : Hid (mid = e) := hid (by omega)
                go_wp2
                go_end0
                obtain ⟨r1, r2⟩ := merge_end hS l4 l5 (by rw [HZ1.out]; exact hb) M5.out HP2.out HQ2.out (perm_refl _ _ _) (by rw [e1.out]; exact N4.out)
                exact ⟨rfl, d2, perm_trans HP1.out r1, r2, HS2.out⟩

/-- slices.symMergeCmpFunc merges. -/
theorem sym_merge (cf : QI Q → QI Q → Int) (g : Nat) (cb : Array Value) (blk off cap : Nat) (d0 : Array (QI Q)) (w0 : World) (eg : ∀ args w, (callFunc g args).run Tryz.prog w = .ok (.enter g args) w) (hC : CmpLays Tryz.prog g cb (QI.cells (Q := Q)) 2 cf blk off d0.size w0)
    (R : RowK (QI.cells (Q := Q)) 2 w0 blk off d0) (hS : SWO (ltOf cf)) (hsz : d0.size < 4611686018427387904) :
    ∀ n (a m b : Nat) (d : Array (QI Q)) (w : World), b - a < n → a < m → m < b → b ≤ d.size → d.size = d0.size → SortedIn (ltOf cf) a m d → SortedIn (ltOf cf) m b d → SWK (QI.cells (Q := Q)) 2 w0 blk off d w → Calls Tryz.prog 113 #[.slice (some ⟨blk, off, none⟩) d.size cap, .int .i64 a, .int .i64 m, .int .i64 b, .func (.func g) #[] cb] w fun e w' => e = .returned (.tuple #[]) ∧ ∃ d', PermIn a b d d' ∧ SortedIn (ltOf cf) a b d' ∧ SWK (QI.cells (Q := Q)) 2 w0 blk off d' w'
  | 0, a, m, b, d, w, h, _, _, _, _, _, _, _ => absurd h (by omega)
  | n + 1, a, m, b, d, w, h, h1, h2, h3, h4, h5, h6, h7 => by
    by_cases c1 : m = a + 1
    · exact sym_left cf g cb blk off cap d0 w0 eg hC R hS hsz a m b d w c1 h2 h3 h4 h6 h7
    · by_cases c2 : b = m + 1
      · exact sym_right cf g cb blk off cap d0 w0 eg hC R hS hsz a m b d w (by omega) c2 h3 h4 h5 h7
      · exact sym_main cf g cb blk off cap d0 w0 eg hC R hS hsz a m b d w (by omega) (by omega) h3 h4 h5 h6 h7
          (fun a' m' b' d' w' hl g1 g2 g3 g4 g5 g6 g7 => sym_merge cf g cb blk off cap d0 w0 eg hC R hS hsz n a' m' b' d' w' (by omega) g1 g2 g3 g4 g5 g6 g7)
end Go.Proofs.YtldlmkfigjicgaaGreatDoor
/- slices.SortStableFunc at items: the whole sort. -/
namespace Go.Proofs.YtldlmkfigjicgaaGreatDoor
set_option linter.unusedVariables false
open Go.ChangeShapes Go.WideShapes Go.ChangeAt Go.RowKit Go.Shelf Go.Lib Go.Sort
variable {Q : IR → Prop} [Inhabited (QI Q)]

theorem cmpLays_on {cf : QI Q → QI Q → Int} {g : Nat} {cb : Array Value} {blk off : Nat} {d0 D : Array (QI Q)} {w0 W : World} (hC : CmpLays Tryz.prog g cb (QI.cells (Q := Q)) 2 cf blk off d0.size w0) (R : RowK (QI.cells (Q := Q)) 2 w0 blk off d0) (h : SWK (QI.cells (Q := Q)) 2 w0 blk off D W) (hs : D.size = d0.size) :
    CmpLays Tryz.prog g cb (QI.cells (Q := Q)) 2 cf blk off D.size W := fun m os dk hk x y => by
  obtain ⟨m', os', e⟩ := h.on R.hblk m dk os hk
  rw [e]
  exact hC m' os' dk (hk.trans hs) x y

theorem ins_any (cf : QI Q → QI Q → Int) (g : Nat) (cb : Array Value) (blk off cap : Nat) (d0 : Array (QI Q)) (w0 : World) (eg : ∀ args w, (callFunc g args).run Tryz.prog w = .ok (.enter g args) w) (hC : CmpLays Tryz.prog g cb (QI.cells (Q := Q)) 2 cf blk off d0.size w0)
    (R : RowK (QI.cells (Q := Q)) 2 w0 blk off d0) (hS : SWO (ltOf cf)) (hsz : d0.size < 4611686018427387904) (a b : Nat) (d : Array (QI Q)) (w : World) (hab : a ≤ b) (hb : b ≤ d.size) (hs : d.size = d0.size) (S : SWK (QI.cells (Q := Q)) 2 w0 blk off d w) :
    Calls Tryz.prog 112 #[.slice (some ⟨blk, off, none⟩) d.size cap, .int .i64 a, .int .i64 b, .func (.func g) #[] cb] w fun e w' => e = .returned (.tuple #[]) ∧ ∃ d', PermIn a b d d' ∧ SortedIn (ltOf cf) a b d' ∧ SWK (QI.cells (Q := Q)) 2 w0 blk off d' w' := by
  have L : SlLaysF0.n20 Tryz.prog Tryz.sortItem_ren := { Tryz.sortItem with }
  refine (AnyQ.insertionSortCmpFunc L 2 Tryz.isAgg67 Tryz.sizeOf67 (QI.cells (Q := Q)) R.hk R.h1 cf g cb blk off cap a b d w eg (cmpLays_on hC R S hs) (S.holds R.hblk R.hH hs) (S.lt R.hblk) hab hb (by omega)).mono ?_
  rintro e w' ⟨rfl, n, os, rfl⟩
  obtain ⟨h1, h2⟩ := insertionSort_holds hS d a b hab hb
  exact ⟨rfl, _, h1, h2, S.on R.hblk n _ os h1.1⟩

set_option maxHeartbeats 4000000 in
set_option maxRecDepth 100000 in
theorem stable_any (cf : QI Q → QI Q → Int) (g : Nat) (cb : Array Value) (blk off cap : Nat) (d : Array (QI Q)) (w : World) (eg : ∀ args w, (callFunc g args).run Tryz.prog w = .ok (.enter g args) w) (hC : CmpLays Tryz.prog g cb (QI.cells (Q := Q)) 2 cf blk off d.size w)
    (R : RowK (QI.cells (Q := Q)) 2 w blk off d) (hS : SWO (ltOf cf)) (hsz : d.size < 1152921504606846976) :
    Calls Tryz.prog 93 #[.slice (some ⟨blk, off, none⟩) d.size cap, .int .i64 d.size, .func (.func g) #[] cb] w fun e w' => e = .returned (.tuple #[]) ∧ ∃ d', PermIn 0 d.size d d' ∧ SortedIn (ltOf cf) 0 d.size d' ∧ SWK (QI.cells (Q := Q)) 2 w blk off d' w' := by
  have HIN := hid (fun a b D w' h1 h2 h3 h4 => ins_any cf g cb blk off cap d w eg hC R hS (by omega) a b D w' h1 h2 h3 h4)
  have HSY := hid (fun a m b D w' h1 h2 h3 h4 h5 h6 h7 => sym_merge cf g cb blk off cap d w eg hC R hS (by omega) (b - a + 1) a m b D w' (Nat.lt_succ_self _) h1 h2 h3 h4 h5 h6 h7)
  have S0 := hid (SWK.start R.hH)
  obtain ⟨n, hn⟩ : ∃ n, n = d.size := ⟨_, rfl⟩
  have HN := hid hn
  rw [← hn] at hsz ⊢
  clear hC R hn
  go_enter Tryz.func93, Tryz.ntmps93
  go_wp2_with fail
  -- STOP-a
  go_loopw [7, 8] (fun s7 s8 wr => ∃ (a t : Nat) (D : Array (QI Q)), s7 = .int .i64 a ∧ s8 = .int .i64 ((a : Int) + 20) ∧ a ≤ n ∧ Hid (a = t * 20) ∧ Hid (D.size = d.size) ∧ Hid (PermIn 0 d.size d D) ∧ Hid (Blocks (ltOf cf) 20 (t * 20) D) ∧ Hid (SWK (QI.cells (Q := Q)) 2 w blk off D wr)) (fun s7 _ _ => n - (intOf s7).toNat)
  case atStart => exact ⟨0, 0, d, rfl, rfl, by omega, hid rfl, hid rfl, hid (perm_refl _ _ _), hid (fun q hq => by omega), S0⟩
  case round =>
    clear S0
    obtain ⟨a, t, D, rfl, rfl, han, HA, HD, HP, HB, S1⟩ := hrel
    by_cases hlt : a + 20 ≤ n
    · have hc := HIN.out a (a + 20) D wr (by omega) (by rw [HD.out, ← HN.out]; exact hlt) HD.out S1.out
      rw [HD.out, ← HN.out] at hc
      have HC := hid hc
      have hlt2 : (a : Int) + 20 ≤ (n : Int) := by omega
      have ZA : Hid (((a + 20 : Nat) : Int) = (a : Int) + 20) := hid (by omega)
      clear hc
      go_wp2_with fail
      -- STOP-b
      rw [← ZA.out]
      refine HC.out.mono ?_
      rintro e w' ⟨rfl, D2, hperm, hsort, S2⟩
      have HP2 := hid (perm_trans HP.out (perm_mono (Nat.zero_le _) (by rw [← HN.out]; exact hlt) (by rw [HD.out]; exact Nat.le_refl _) hperm))
      have HB2 := hid (by have := HB.out; rw [← HA.out] at this; exact (show Blocks (ltOf cf) 20 (a + 20) D2 by
        have e := HA.out
        rw [e] at hperm hsort this ⊢
        exact blocks_more this hperm hsort))
      have HD2 := hid (hperm.1.trans HD.out)
      have HS2 := hid S2
      clear hperm hsort S2
      rw [ZA.out]
      go_wp2
      go_roundw
      case rel => exact ⟨a + 20, t + 1, D2, by go_num, by congr 1 <;> omega, hlt, hid (by have := HA.out; omega), HD2, HP2, hid (by have := HB2.out; rwa [show (t + 1) * 20 = a + 20 by have := HA.out; omega]), HS2⟩
      case measure => simp [intOf]; omega
    · have hc := HIN.out a n D wr han (by rw [HD.out, ← HN.out]; exact Nat.le_refl _) HD.out S1.out
      rw [HD.out, ← HN.out] at hc
      have HC := hid hc
      have hlt2 : ¬ (a : Int) + 20 ≤ (n : Int) := by omega
      have hlt3 : (n : Int) < (a : Int) + 20 := by omega
      clear hc
      go_wp2_with fail
      -- STOP-c
      refine HC.out.mono ?_
      rintro e w' ⟨rfl, D2, hperm, hsort, S2⟩
      have HP2 := hid (perm_trans HP.out (perm_mono (Nat.zero_le _) (by rw [← HN.out]; exact Nat.le_refl _) (by rw [HD.out]; exact Nat.le_refl _) hperm))
      have HB2 : Hid (BlocksTo (ltOf cf) 20 n D2) := hid (by
        have e := HA.out
        rw [e] at hperm hsort
        exact blocks_end (by omega) HB.out (by omega) (by omega) hperm hsort)
      have HD2 := hid (hperm.1.trans HD.out)
      have HS2 := hid S2
      clear hperm hsort S2 HP HB S1 HA HD HC hlt2 hlt3 hlt
      go_wp2_with fail
      -- STOP-d
      go_loopw [6, 7, 8, 9] (fun s6 s7 s8 s9 wr => ∃ (k : Nat) (D : Array (QI Q)), s6 = .int .i64 k ∧ 0 < k ∧ k ≤ 1152921504606846976 * 2 ∧ Hid (D.size = d.size) ∧ Hid (PermIn 0 d.size d D) ∧ Hid (BlocksTo (ltOf cf) k n D) ∧ Hid (SWK (QI.cells (Q := Q)) 2 w blk off D wr)) (fun s6 _ _ _ _ => n - (intOf s6).toNat)
      case atStart => exact ⟨20, D2, rfl, by omega, by omega, HD2, HP2, HB2, HS2⟩
      case round =>
        clear HD2 HP2 HB2 HS2
        obtain ⟨k, D, rfl, hk0, hk1, HD, HP, HB, S1⟩ := hrel
        obtain ⟨wo, rfl⟩ : ∃ wx : World, wx = wr := ⟨_, rfl⟩
        by_cases hkn : k < n
        · have w2k : IntKind.i64.wrap (2 * (k : Int)) = 2 * (k : Int) := IntWalk.i64_in _ (by omega)
          have wk2 : IntKind.i64.wrap ((k : Int) * 2) = (k : Int) * 2 := IntWalk.i64_in _ (by omega)
          have HPA := hid (pass_start HB.out hk0)
          clear HB
          go_wp2_with fail
          -- STOP-e
          go_loopw [7, 8] (fun s7 s8 wr => ∃ (a t : Nat) (D : Array (QI Q)), s7 = .int .i64 a ∧ s8 = .int .i64 ((a : Int) + 2 * (k : Int)) ∧ a ≤ n ∧ Hid (a = t * (2 * k)) ∧ Hid (D.size = d.size) ∧ Hid (PermIn 0 d.size d D) ∧ Hid (Pass (ltOf cf) k t n D) ∧ Hid (SWK (QI.cells (Q := Q)) 2 w blk off D wr)) (fun s7 _ _ => n - (intOf s7).toNat)
          case atStart => exact ⟨0, 0, D, rfl, by congr 1 <;> omega, by omega, hid (by omega), HD, HP, HPA, S1⟩
          case round =>
            clear HPA HD HP S1
            obtain ⟨a, t, D, rfl, rfl, han, HA, HD, HP, HB, S1⟩ := hrel
            by_cases hlt : a + 2 * k ≤ n
            · obtain ⟨p1, p2⟩ := pass_parts HB.out (by rw [← HA.out]; exact hlt)
              rw [← HA.out] at p1 p2
              have hc := HSY.out a (a + k) (a + 2 * k) D wr (by omega) (by omega) (by rw [HD.out, ← HN.out]; exact hlt) HD.out p1 p2 S1.out
              rw [HD.out, ← HN.out] at hc
              have HC := hid hc
              have hlt2 : (a : Int) + 2 * (k : Int) ≤ (n : Int) := by omega
              have ZA : Hid (((a + 2 * k : Nat) : Int) = (a : Int) + 2 * (k : Int)) := hid (by omega)
              have ZB : Hid (((a + k : Nat) : Int) = (a : Int) + (k : Int)) := hid (by omega)
              clear hc p1 p2
              go_wp2_with fail
              -- STOP-f
              rw [← ZA.out, ← ZB.out]
              refine HC.out.mono ?_
              rintro e w' ⟨rfl, D2, hperm, hsort, S2⟩
              have HP2 := hid (perm_trans HP.out (perm_mono (Nat.zero_le _) (by rw [← HN.out]; exact hlt) (by rw [HD.out]; exact Nat.le_refl _) hperm))
              have HB2 : Hid (Pass (ltOf cf) k (t + 1) n D2) := hid (by
                have e := HA.out
                rw [e] at hperm hsort
                exact pass_more HB.out hperm hsort)
              have HD2 := hid (hperm.1.trans HD.out)
              have HS2 := hid S2
              clear hperm hsort S2
              rw [ZA.out]
              go_wp2
              go_roundw
              case rel => exact ⟨a + 2 * k, t + 1, D2, by rw [ZA.out], by congr 1 <;> omega, hlt, hid (by rw [Nat.succ_mul t (2 * k), ← HA.out]), HD2, HP2, HB2, HS2⟩
              case measure => simp [intOf]; omega
            · have hlt2 : ¬ (a : Int) + 2 * (k : Int) ≤ (n : Int) := by omega
              have hlt3 : (n : Int) < (a : Int) + 2 * (k : Int) := by omega
              by_cases hm : a + k < n
              · obtain ⟨p1, p2⟩ := pass_last HB.out (by rw [← HA.out]; exact hm) (by rw [← HA.out]; omega)
                rw [← HA.out] at p1 p2
                have hc := HSY.out a (a + k) n D wr (by omega) hm (by rw [HD.out, ← HN.out]; exact Nat.le_refl _) HD.out p1 p2 S1.out
                rw [HD.out, ← HN.out] at hc
                have HC := hid hc
                have hm2 : (a : Int) + (k : Int) < (n : Int) := by omega
                have ZB : Hid (((a + k : Nat) : Int) = (a : Int) + (k : Int)) := hid (by omega)
                clear hc p1 p2
                go_wp2_with fail
                -- STOP-g
                rw [← ZB.out]
                refine HC.out.mono ?_
                rintro e w' ⟨rfl, D2, hperm, hsort, S2⟩
                have HP2 := hid (perm_trans HP.out (perm_mono (Nat.zero_le _) (by rw [← HN.out]; exact Nat.le_refl _) (by rw [HD.out]; exact Nat.le_refl _) hperm))
                have HB2 : Hid (BlocksTo (ltOf cf) (2 * k) n D2) := hid (by
                  have e := HA.out
                  rw [e] at hperm hsort han hlt
                  exact pass_end hk0 HB.out han (by omega) hperm hsort)
                have HD2 := hid (hperm.1.trans HD.out)
                have HS2 := hid S2
                clear hperm hsort S2
                go_wp2
                go_roundw
                case rel => exact ⟨2 * k, D2, by congr 1 <;> omega, by omega, by omega, HD2, HP2, HB2, HS2⟩
                case measure => simp [intOf]; omega
              · have hm2 : ¬ (a : Int) + (k : Int) < (n : Int) := by omega
                have hm3 : (n : Int) ≤ (a : Int) + (k : Int) := by omega
                have HB2 : Hid (BlocksTo (ltOf cf) (2 * k) n D) := hid (by
                  have e := HA.out
                  have hs := pass_short HB.out (by rw [← e]; omega)
                  rw [e] at han hlt
                  exact pass_end hk0 HB.out han (by omega) (perm_refl _ _ _) hs)
                go_wp2
                go_roundw
                case rel => exact ⟨2 * k, D, by congr 1 <;> omega, by omega, by omega, HD, HP, HB2, S1⟩
                case measure => simp [intOf]; omega
        · go_wp2
          go_end0
          exact ⟨rfl, D, by have := HP.out; rwa [← HN.out] at this, blocks_all HB.out (by omega), S1.out⟩

/-- slices.SortStableFunc sorts. -/
theorem sortStable_raw (cf : QI Q → QI Q → Int) (g : Nat) (cb : Array Value) (blk off cap : Nat) (d : Array (QI Q)) (w : World) (eg : ∀ args w, (callFunc g args).run Tryz.prog w = .ok (.enter g args) w) (hC : CmpLays Tryz.prog g cb (QI.cells (Q := Q)) 2 cf blk off d.size w)
    (R : RowK (QI.cells (Q := Q)) 2 w blk off d) (hS : SWO (ltOf cf)) (hsz : d.size < 1152921504606846976) :
    Calls Tryz.prog 71 #[.slice (some ⟨blk, off, none⟩) d.size cap, .func (.func g) #[] cb] w fun e w' => e = .returned (.tuple #[]) ∧ ∃ d', PermIn 0 d.size d d' ∧ SortedIn (ltOf cf) 0 d.size d' ∧ SWK (QI.cells (Q := Q)) 2 w blk off d' w' := by
  have HC := hid (stable_any cf g cb blk off cap d w eg hC R hS hsz)
  clear hC R hS
  go_enter Tryz.func71, Tryz.ntmps71
  go_wp2_with fail
  refine HC.out.mono ?_
  rintro e w' ⟨rfl, d', h1, h2, h3⟩
  have H1 := hid h1
  have H2 := hid h2
  have H3 := hid h3
  clear h1 h2 h3
  go_wp2
  go_end0
  exact ⟨rfl, d', H1.out, H2.out, H3.out⟩
end Go.Proofs.YtldlmkfigjicgaaGreatDoor
/- The order that zset.Sum sorts by. -/
namespace Go.Proofs.YtldlmkfigjicgaaGreatDoor
set_option linter.unusedVariables false
set_option linter.unusedSimpArgs false
open Go.ChangeShapes Go.WideShapes Go.ChangeAt Go.RowKit Go.Shelf Go.Lib Go.Sort

set_option maxHeartbeats 400000 in
set_option maxRecDepth 100000 in
theorem sum1_any (x y : IR) (w : World) (hx : Row w w.heap.size x.A (icells' x.row)) (hxl : x.row.length ≤ 9223372036854775807) (hy : Row w w.heap.size y.A (icells' y.row)) (hyl : y.row.length ≤ 9223372036854775807) :
    Calls Tryz.prog 72 #[.agg x.cells.toArray, .agg y.cells.toArray] w fun e w' => e = .returned (.int .i64 (cmpL x.row y.row)) ∧ ∃ q os', w' = grow (w.drewN q) os' := by
  obtain ⟨xr, xA, xk, xn⟩ := x
  obtain ⟨yr, yA, yk, yn⟩ := y
  simp only at hx hxl hy hyl ⊢
  have HC := hid (fun w1 (hb : Below w.heap.size w w1) => orderL_any xr yr xA yA xk yk w1 (hx.step hb) (hy.step hb) hxl hyl)
  clear hx hy
  simp only [IR.cells]
  go_enter Tryz.func72, Tryz.ntmps72
  go_wp2_with (go_at_call 16; refine (HC.out _ (by (repeat' (first | (with_reducible exact Below.refl _ _) | (with_reducible assumption) | (with_reducible refine below_drewN ?_ _) | (with_reducible refine Below.drew ?_) | (with_reducible refine Below.alloc ?_ ?_ _) | (with_reducible refine Below.setCell ?_ ?_ _) | (refine Below.trans ?_ (Below.mono (by assumption) ?_)) | go_size)))).mono ?_; rintro e w' ⟨rfl, rfl⟩)
  go_ret
  exact ⟨rfl, 0, _, by rw [alloc_eq_grow, alloc_eq_grow, grow_grow]; rfl⟩
theorem enters_sum1 : ∀ args w, (callFunc 72 args).run Tryz.prog w = .ok (.enter 72 args) w := enters_of Tryz.func72 (by kernel_rfl) rfl

/-- A world of the sort's: the one that it began with, but for the row's block, and what is new. -/
theorem sortWorldK_grown {α : Type} [Inhabited α] (enc : α → List Value) (k : Nat) (w : World) (g off n : Nat) (l : Array α) (os : Array Obj) : w.grownBy (sortWorldK enc k w g off n l os) (some g) := by
  refine ⟨rfl, rfl, rfl, ?_, ?_⟩
  · unfold sortWorldK grow Sort.putRowK putRow mapBlock Sort.ahead
    simp
  · intro j hj hne
    have hne' : g ≠ j := fun e => hne (by rw [e])
    unfold sortWorldK grow Sort.putRowK putRow mapBlock Sort.ahead
    simp [Array.getElem?_append, hj, Array.getElem_modify, hne']

/-- What is asked of the items that a sort orders: their rows lie below B. -/
def RowQ (w : World) (B : Nat) (x : IR) : Prop := Row w B x.A (icells' x.row) ∧ x.row.length ≤ 9223372036854775807
instance (w : World) (B : Nat) : Inhabited (QI (RowQ w B)) := ⟨⟨⟨[], none, 0, 0⟩, Row.nil, by simp⟩⟩
def itCf {Q : IR → Prop} (x y : QI Q) : Int := cmpL x.1.row y.1.row
theorem swo_itCf {Q : IR → Prop} : SWO (ltOf (itCf (Q := Q))) where
  irrefl x := swo_it.irrefl x.1.it
  trans x y z h1 h2 := swo_it.trans x.1.it y.1.it z.1.it h1 h2
  ntrans x y z h1 h2 := swo_it.ntrans x.1.it y.1.it z.1.it h1 h2
theorem cmpLays_sum1 (w : World) (B blk off size : Nat) (hB : B ≤ w.heap.size) (hblk : B ≤ blk) : CmpLays Tryz.prog 72 #[] (QI.cells (Q := RowQ w B)) 2 itCf blk off size w := fun m os dk hs x y => by
  have hg := sortWorldK_grown (QI.cells (Q := RowQ w B)) 2 w blk off m dk os
  have hr : ∀ z : QI (RowQ w B), Row (sortWorldK (QI.cells (Q := RowQ w B)) 2 w blk off m dk os) (sortWorldK (QI.cells (Q := RowQ w B)) 2 w blk off m dk os).heap.size z.1.A (icells' z.1.row) := fun z =>
    (z.2.1.grown hB hg (fun k e => by injection e with e; omega)).more (Nat.le_trans hB hg.size)
  exact sum1_any x.1 y.1 _ (hr x) x.2.2 (hr y) y.2.2
end Go.Proofs.YtldlmkfigjicgaaGreatDoor
/- The stable sort over a row of items that the call owns, nil too; slices.Clone at int. -/
namespace Go.Proofs.YtldlmkfigjicgaaGreatDoor
set_option linter.unusedVariables false
set_option linter.unusedSimpArgs false
open Go.ChangeShapes Go.WideShapes Go.ChangeAt Go.RowKit Go.Shelf Go.Lib Go.Sort

theorem zflat_flatK {α : Type} [Inhabited α] (f : α → List Value) (k : Nat) (hf : ∀ x, (f x).length = k) (hk : 0 < k) (l : List α) : (l.flatMap f).toArray = flatK f k l.toArray := by
  apply Array.ext
  · rw [List.size_toArray, flat_len hf, size_flatK, List.size_toArray]
  · intro i h1 h2
    have hi : i < l.length * k := by rw [List.size_toArray, flat_len hf] at h1; exact h1
    have hq : i / k < l.length := Nat.div_lt_of_lt_mul (by rw [Nat.mul_comm]; exact hi)
    have e := get_flatK f k l.toArray i (by rw [List.size_toArray]; exact hi)
    rw [getElem!_pos _ i h2] at e
    rw [e]
    have g := flat_get hf l (i / k) hq (i % k) (Nat.mod_lt _ hk)
    rw [Nat.div_add_mod' i k] at g
    have hl : l.toArray[i / k]! = l[i / k] := by simp [hq]
    rw [hl]
    have h3 : i % k < (f l[i / k]).length := by rw [hf]; exact Nat.mod_lt _ hk
    rw [getElem!_pos (f l[i / k]) (i % k) h3]
    have h4 : i < (l.flatMap f).length := by rw [flat_len hf]; exact hi
    rw [List.getElem?_eq_getElem h4, List.getElem?_eq_getElem h3] at g
    injection g with g
theorem take_get {cur : Array Value} {n : Nat} {xs : List Value} (h : cur.toList.take n = xs) {j : Nat} (hj : j < xs.length) : cur[j]? = xs[j]? := by
  subst h
  rw [List.getElem?_take_of_lt (by simp at hj; omega)]
  simp
theorem own_holds {α : Type} [Inhabited α] (f : α → List Value) (hf : ∀ x, (f x).length = 2) {w : World} {g : Nat} {l : List α} {cur : Array Value} {T : TypeId} (hg : w.heap[g]? = some (.cells cur T (0, 0))) (hc : cur.toList.take (l.length * 2) = l.flatMap f) : HoldsK f 2 w g 0 l.toArray := by
  intro j hj
  rw [← zflat_flatK f 2 hf (by decide)] at hj ⊢
  have hj' : j < (l.flatMap f).length := by simpa using hj
  have e := take_get hc hj'
  have e2 : (l.flatMap f).toArray[j]! = (l.flatMap f)[j] := by
    rw [getElem!_pos _ j hj]; simp
  rw [e2]
  constructor
  · rw [Nat.zero_add, cell_of_row w g j cur T (0, 0) hg, e, List.getElem?_eq_getElem hj']; rfl
  · simp [World.frozen?, hg]
theorem own_sorted {α : Type} [Inhabited α] (f : α → List Value) (hf : ∀ x, (f x).length = 2) {w : World} {B cap g n : Nat} {l' : List α} {cur : Array Value} {T : TypeId} {os : Array Obj} (hb : B ≤ g) (hg : w.heap[g]? = some (.cells cur T (0, 0))) (hcap : l'.length ≤ cap) (hm : cap ≤ maxLen) (hs : cur.size = cap * 2) :
    (sortWorldK f 2 w g 0 n l'.toArray os).ownsRow B T 2 (.slice (some ⟨g, 0, none⟩) l'.length cap) l'.length (l'.flatMap f) := by
  have hlt : g < w.heap.size := by
    rcases Nat.lt_or_ge g w.heap.size with h | h
    · exact h
    · rw [Array.getElem?_eq_none h] at hg; cases hg
  have hnew : (sortWorldK f 2 w g 0 n l'.toArray os).heap[g]? = some (.cells (putCells id 0 (flatK f 2 l'.toArray) cur) T (0, 0)) := by
    unfold sortWorldK grow Sort.putRowK putRow mapBlock Sort.ahead
    simp only [Array.getElem?_append, Array.size_modify, hlt, if_true, Array.getElem?_modify, hg, Option.map_some]
    rfl
  refine ⟨by rw [flat_len hf], .inr ⟨g, cap, _, rfl, hb, hnew, hcap, hm, by simp [putCells, hs], ?_⟩⟩
  rw [← zflat_flatK f 2 hf (by decide)]
  apply List.ext_getElem?
  intro j
  by_cases hj : j < (l'.flatMap f).length
  · have hj2 : j < l'.length * 2 := by rw [flat_len hf] at hj; exact hj
    have hjc : j < cur.size := by rw [hs]; omega
    rw [List.getElem?_take_of_lt hj2]
    simp only [putCells, Array.toList_mapIdx, List.getElem?_mapIdx]
    have : cur.toList[j]? = some cur.toList[j] := List.getElem?_eq_getElem (by simpa using hjc)
    rw [this]
    simp only [Option.map_some, Nat.zero_le, Nat.zero_add, List.size_toArray, hj, and_self, if_true, Nat.sub_zero, id]
    rw [getElem!_pos _ j (by simpa using hj), List.getElem?_eq_getElem hj]
    simp
  · rw [List.getElem?_eq_none (Nat.le_of_not_lt hj), List.getElem?_eq_none]
    rw [List.length_take]
    rw [flat_len hf] at hj
    omega

set_option maxRecDepth 100000 in
theorem ins_none (c : Nat) (f : Value) (w : World) : Calls Tryz.prog 112 #[.slice none 0 c, .int .i64 0, .int .i64 0, f] w fun e w' => e = .returned (.tuple #[]) ∧ w = w' := by
  go_enter Tryz.func112, Tryz.ntmps112
  go_wp2
  refine wp_loop_rounds 1 ?_
  rw [rounds_succ]
  go_wp2
  go_end0
  exact ⟨rfl, rfl⟩
set_option maxRecDepth 100000 in
theorem stable_none (c : Nat) (f : Value) (w : World) : Calls Tryz.prog 93 #[.slice none 0 c, .int .i64 0, f] w fun e w' => e = .returned (.tuple #[]) ∧ w = w' := by
  go_enter Tryz.func93, Tryz.ntmps93
  go_wp2
  refine wp_loop_rounds 1 ?_
  rw [rounds_succ]
  go_wp2_with (go_at_call 112; refine (ins_none _ _ _).mono ?_; rintro e w' ⟨rfl, rfl⟩)
  refine wp_loop_rounds 1 ?_
  rw [rounds_succ]
  go_wp2
  go_end0
  exact ⟨rfl, rfl⟩
set_option maxRecDepth 100000 in
theorem sortStable_none (c : Nat) (f : Value) (w : World) : Calls Tryz.prog 71 #[.slice none 0 c, f] w fun e w' => e = .returned (.tuple #[]) ∧ w = w' := by
  go_enter Tryz.func71, Tryz.ntmps71
  go_wp2_with (go_at_call 93; refine (stable_none _ _ _).mono ?_; rintro e w' ⟨rfl, rfl⟩)
  go_end0
  exact ⟨rfl, rfl⟩

theorem perm_all {α : Type} {d d' : Array α} [Inhabited α] (h : PermIn 0 d.size d d') : d'.toList.Perm d.toList := by
  have h2 := h.2.2
  have e1 : d'.extract 0 d.size = d' := by rw [← h.1]; simp
  have e2 : d.extract 0 d.size = d := by simp
  rwa [e1, e2] at h2
theorem attach_val {Q : IR → Prop} : ∀ (L : List IR) (h : ∀ x ∈ L, Q x), (L.attachWith Q h).map Subtype.val = L := fun L h => by simp
theorem cells_val {Q : IR → Prop} (l : List (QI Q)) : l.flatMap (QI.cells (Q := Q)) = rcells (l.map Subtype.val) := by
  rw [rcells, List.flatMap_map]

/-- The stable sort over a row that the call owns (nil too). -/
theorem zsortI_own {B : Nat} {v : Value} (L : List IR) (w : World) (hown : w.ownsRow B 67 2 v L.length (rcells L)) (hr : RowsAt w B L) (hB : B ≤ w.heap.size) (hl : L.length ≤ 1152921504606846975) :
    Calls Tryz.prog 71 #[v, .func (.func 72) #[] #[]] w fun e w' => e = .returned (.tuple #[]) ∧ ∃ L' : List IR, L'.Perm L ∧ Rising (its L') ∧ w'.ownsRow B 67 2 v L.length (rcells L') ∧ w.grownBy w' v.ownBlock := by
  rcases hown.2 with ⟨rfl, h0⟩ | ⟨g, cap, cur, rfl, hb, hg, hcap, hm, hs, ht⟩
  · have hl0 : L = [] := List.eq_nil_of_length_eq_zero h0
    subst hl0
    refine (sortStable_none 0 _ w).mono fun e w' ⟨he, hw⟩ => ?_
    subst hw
    exact ⟨he, [], List.Perm.refl _, fun i j hi _ _ => by simp at hi, hown, ⟨rfl, rfl, rfl, Nat.le_refl _, fun _ _ _ => rfl⟩⟩
  · have hlt : g < w.heap.size := by
      rcases Nat.lt_or_ge g w.heap.size with h | h
      · exact h
      · rw [Array.getElem?_eq_none h] at hg; cases hg
    have hv := attach_val L (Q := RowQ w B) hr
    obtain ⟨l, hL⟩ : ∃ l : List (QI (RowQ w B)), l = L.attachWith (RowQ w B) hr := ⟨_, rfl⟩
    rw [← hL] at hv
    have hln : l.length = L.length := by rw [← hv, List.length_map]
    have hcells : l.flatMap QI.cells = rcells L := by rw [cells_val, hv]
    have R : RowK (QI.cells (Q := RowQ w B)) 2 w g 0 l.toArray := ⟨fun _ => rfl, fun x u hu => by simp only [QI.cells, IR.cells, List.mem_cons, List.not_mem_nil, or_false] at hu; rcases hu with rfl | rfl <;> rfl, own_holds _ (fun _ => rfl) hg (by rw [hln, ht, hcells]), hlt⟩
    have hc := sortStable_raw (itCf (Q := RowQ w B)) 72 #[] g 0 cap l.toArray w enters_sum1 (cmpLays_sum1 w B g 0 l.toArray.size hB hb) R swo_itCf (by rw [List.size_toArray, hln]; omega)
    rw [show l.toArray.size = L.length by rw [List.size_toArray, hln]] at hc
    refine hc.mono fun e w' ⟨he, d', hp, hsrt, n, os, hw⟩ => ?_
    rw [show L.length = l.toArray.size by rw [List.size_toArray, hln]] at hp hsrt
    have hperm := perm_all hp
    have hd : d' = d'.toList.toArray := by simp
    have hdl : d'.toList.length = L.length := by rw [hperm.length_eq]; simpa using hln
    have ho := own_sorted (QI.cells (Q := RowQ w B)) (fun _ => rfl) (l' := d'.toList) (n := n) (os := os) hb hg (by rw [hdl]; exact hcap) hm hs
    rw [← hd, ← hw, cells_val, hdl] at ho
    refine ⟨he, d'.toList.map Subtype.val, ?_, ?_, ho, ?_⟩
    · have := hperm.map Subtype.val
      rw [hv] at this
      exact this
    · intro i j hi hj hij
      simp only [its, List.length_map] at hi hj
      have h1 := hsrt i j (Nat.zero_le _) hij (by rw [List.size_toArray, hln, ← hdl]; exact hj)
      have hi' : i < d'.size := by simpa using hi
      have hj' : j < d'.size := by simpa using hj
      rw [getElem!_pos d' i hi', getElem!_pos d' j hj'] at h1
      have h3 : ¬ (cmpL (d'[j]).1.row (d'[i]).1.row < 0) := of_decide_eq_false h1
      have h2 := cmpL_neg (d'[i]).1.row (d'[j]).1.row
      simp only [its, List.getElem_map, Array.getElem_toList, IR.it]
      omega
    · rw [hw]
      exact sortWorldK_grown _ 2 w g 0 n d' os

theorem elem_int : Elem Tryz.prog 30 3 1 8 := ⟨Tryz.underlying30, by
  obtain ⟨i, hi, hz, hs, hb⟩ := info_parts (P := Tryz.prog) (e := 3) (z := .int .i64 0) (size := 1) (bytes := 8) (by kernel_rfl)
  exact ⟨i, _, hi, hz, hs, hb, rfl⟩, by decide⟩
set_option maxHeartbeats 400000 in
set_option maxRecDepth 100000 in
theorem cloneI_any (l : List Int) (A : Option Addr) (c : Nat) (w : World) (hr : Row w w.heap.size A (icells' l)) (hl : l.length ≤ 1048576) :
    Calls Tryz.prog 40 #[.slice A l.length c] w fun e w' => ∃ A' c', e = .returned (.slice A' l.length c') ∧ RowOwn w' A' l c' ∧ NewAt w.heap.size A' ∧ (∀ b off q, A' = some ⟨b, off, q⟩ → b < w'.heap.size) ∧ Below w.heap.size w w' := by
  rcases A with _ | ad
  · have he : l = [] := by
      rcases hr with h | ⟨b, off, h, _⟩
      · simpa using h
      · cases h
    subst he
    have hnil := fun (w : World) => Lib.run_eql_slice_nil w (P := Tryz.prog) (t := 30) (e := 3) none 0 c 0 0 Tryz.underlying30
    go_enter Tryz.func40, Tryz.ntmps40
    go_wp2
    go_ret
    exact ⟨none, 0, rfl, ⟨Row.nil, World.ownsRow_nil _ _ _ _⟩, newAt_none _, (fun _ _ _ e => by cases e), Below.refl _ _⟩
  · have hnil := fun (w : World) => Lib.run_eql_slice_nil w (P := Tryz.prog) (t := 30) (e := 3) (some ad) l.length c 0 0 Tryz.underlying30
    have HR := hid hr
    clear hr
    go_enter Tryz.func40, Tryz.ntmps40
    go_wp2_with (at_builtin; refine wpList_append_row elem_int rfl _ _ rfl w.heap.size (.slice (some ⟨w.heap.size, 0, none⟩) 0 0) 0 [] rfl (World.ownsRow_made w #[] 0 (Nat.le_refl _) (by decide) rfl) (some ad) l.length c w.heap.size (icells' l) rfl ?_ (HR.out.below (Below.alloc (Below.refl _ _) (Nat.le_refl _) _) (Nat.le_refl _)) ?_ ?_ ?_ ?_ ?_; rotate_right; intro v1 w1 hown1 hg1 hat1; rotate_left; (simp); (intro u hu; obtain ⟨x, -, rfl⟩ := List.mem_map.1 hu; rfl); (simp only [maxLen]; omega); (omega); (simp))
    go_ret
    obtain ⟨A1, c1, rfl⟩ := own_formS hown1
    refine ⟨A1, c1, by simp, ?_, own_newS hown1 (Nat.le_refl _), own_inS hown1, ((Below.refl _ _).alloc (Nat.le_refl _) _).grown hg1 (by simp) (fun k hk => ?_)⟩
    · exact RowOwn.of_own (by simpa using hown1) rfl
    · simp [Value.ownBlock] at hk
      omega
end Go.Proofs.YtldlmkfigjicgaaGreatDoor
