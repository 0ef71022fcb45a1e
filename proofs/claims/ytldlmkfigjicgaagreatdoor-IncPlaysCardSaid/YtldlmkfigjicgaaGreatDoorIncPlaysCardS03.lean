/- ZsE, StbW, Sym, SymM -/
import Derived.Test.YtldlmkfigjicgaaGreatDoorIncPlaysCardS02
import Derived.Deep.CutBlock
import Derived.Deep.CutRange
import Derived.BigRegion
import Derived.Deep.LoopGhost
import Derived.Outline
import Derived.Shelf.SlSortCmp.QuietGrown
/- zset.Check. -/
namespace Go.Proofs.YtldlmkfigjicgaaGreatDoor
set_option linter.unusedVariables false
set_option linter.unusedSimpArgs false
open Go.ChangeShapes Go.WideShapes Go.ChangeAt Go.RowKit

set_option maxHeartbeats 2000000 in
set_option maxRecDepth 100000 in
theorem zcheck_any (M : List IR) (A : Option Addr) (c : Nat) (w : World) (hr : RowI w w.heap.size A M) (hl : M.length ≤ 9223372036854775807) :
    Calls Tryz.prog 18 #[.slice A M.length c] w fun e w' => e = .returned (.int .i64 (setI (its M))) ∧ Below w.heap.size w w' := by
  have HR := hid hr
  clear hr
  have HE := hid (show setI (its M) = if 400 < (its M).length then 2 else if (List.range (its M).length).any (zbadAt (its M)) = true then 5 else 0 from rfl)
  obtain ⟨E, hE⟩ : ∃ E, E = setI (its M) := ⟨_, rfl⟩
  rw [← hE] at HE ⊢
  rw [its_len] at HE
  clear hE
  by_cases h4 : 400 < M.length
  · have h4' : (400 : Int) < (M.length : Int) := by omega
    have HD : Hid (E = 2) := hid (by rw [HE.out, if_pos h4])
    go_enter Tryz.func18, Tryz.ntmps18
    go_wp2
    go_ret
    exact ⟨ret_int (by rw [HD.out]), Below.refl _ _⟩
  · have h4' : (M.length : Int) ≤ 400 := by omega
    have h4n : M.length ≤ 400 := by omega
    replace HE : Hid (E = if (List.range M.length).any (zbadAt (its M)) = true then 5 else 0) := hid (by rw [HE.out, if_neg h4])
    clear h4
    go_enter Tryz.func18, Tryz.ntmps18
    go_wp2_with fail
    go_loopw [10] (fun s10 wr => ∃ i : Nat, i ≤ M.length ∧ s10 = .int .i64 i ∧ Hid (∀ j, j < i → zbadAt (its M) j = false) ∧ Hid (Below w.heap.size w wr)) (fun s10 _ => M.length - (intOf s10).toNat)
    case atStart => exact ⟨0, by omega, rfl, hid (fun j h => by omega), hid (Below.refl _ _)⟩
    case round =>
      obtain ⟨i, hi, rfl, HNO, HB⟩ := hrel
      by_cases hlt : i < M.length
      · have HRR := hid (HR.out.step HB.out)
        obtain ⟨b, off, rfl, hb, h0, h1⟩ := HRR.out.1.it hlt
        have hmem := List.getElem_mem hlt
        have hrw := HRR.out.2 _ hmem
        have HBA : Hid (zbadAt (its M) i = ((badB M[i].it || decide (M[i].n = 0)) || (if h : 0 < i then decide (0 ≤ cmpL M[i - 1].row M[i].row) else false))) := hid (by
          cases i with
          | zero => rw [badAt_zero (by rw [its_len]; exact hlt)]; simp [its]
          | succ k => rw [badAt_succ (by rw [its_len]; exact hlt)]; simp [its])
        have hprev : ∀ h : 0 < i, ∃ (y : List Int) (yA : Option Addr) (yk : Nat), wr.cell? ⟨b, off + (i - 1) * 2, none⟩ = some (.slice yA y.length yk) ∧ Row wr wr.heap.size yA (icells' y) ∧ y.length ≤ 9223372036854775807 ∧ y = M[i - 1].row := fun h => by
          obtain ⟨b2, off2, hA2, hb2, g0, g1⟩ := HRR.out.1.it (show i - 1 < M.length by omega)
          injection hA2 with hA2
          injection hA2 with q1 q2
          subst q1 q2
          exact ⟨_, _, _, g0, (HRR.out.2 _ (List.getElem_mem _)).1, (HRR.out.2 _ (List.getElem_mem _)).2, rfl⟩
        obtain ⟨bad, hbad⟩ : ∃ bad, bad = zbadAt (its M) i := ⟨_, rfl⟩
        have HBD := hid hbad
        rw [← hbad] at HBA
        clear hbad hmem
        generalize M[i] = x at *
        obtain ⟨xr, xA, xk, xn⟩ := x
        simp only at h0 h1 hrw
        simp only [IR.it] at HBA
        obtain ⟨hrw1, hrw2⟩ := hrw
        obtain ⟨W, hW⟩ : ∃ W : World, W = wr.alloc (.cells #[.slice xA xr.length xk, .int .i64 xn] 67) := ⟨_, rfl⟩
        have hWB : Below wr.heap.size wr W := by rw [hW]; exact alloc_below (Below.refl _ _) _
        have HWX := hid (show Blk W wr.heap.size #[.slice xA xr.length xk, .int .i64 xn] 67 by rw [hW]; exact Blk.new _ _ _)
        have HROW := hid (fun w1 (hb : Below W.heap.size W w1) => row_any xr xA xk w1 (hrw1.step (Below.step' hWB hb)) hrw2)
        have HFAR := hid (fun w1 => far_any xn w1)
        have HXR := hid hrw1
        have hbr := hb
        have HBW := hid (Below.step' HB.out hWB)
        have HB2 := hid hWB
        have hW2 := hWB.size
        clear hWB
        obtain ⟨rb, hrb⟩ : ∃ q, q = rowB xr := ⟨_, rfl⟩
        obtain ⟨fb, hfb⟩ : ∃ q, q = farB xn := ⟨_, rfl⟩
        rw [← hrb] at HROW
        rw [← hfb] at HFAR
        replace HBA : Hid (bad = (((!rb || fb) || decide (xn = 0)) || (if h : 0 < i then decide (0 ≤ cmpL M[i - 1].row xr) else false))) := hid (by rw [HBA.out, badB, ← hrb, ← hfb])
        clear hrb hfb
        have hb0 : b < W.heap.size := by omega
        have HPRE := hid hprev
        clear hprev
        have HW := hid hW
        go_wp2_with fail
        -- STOP-a
        rw [← hW]
        clear hW h0 h1 hb hrw1
        go_cut [44] from 15 to 44 (fun s wx => s = .bool bad ∧ Hid (Below W.heap.size W wx))
        case first =>
          obtain ⟨cx, fx, sx, nx⟩ := HWX.out.all
          cases rb
          · go_wp2
            refine region_ext (by kernel_rfl) (by kernel_rfl) (fun hext => ?_)
            repeat (any_goals ((with_reducible refine wpQuiet_step (fun K hK => ?_)); go_simp; first | (with_reducible refine hK _ ?_; clear hK K) | ((with_reducible apply Exists.intro); (with_reducible refine ⟨fun _ => ?_, hK _ ?_⟩); ((first | (go_at_call 33; exact ext_call _ (Nat.le_refl _) (HROW.out _ (Ext.below _))) | (go_at_call 34; exact ext_call_same _ (HFAR.out _)) | (go_at_call 16; exact ext_call_same _ (HORD.out _ (Ext.below _))))); clear hK K) | ((with_reducible refine (if_neg ?_).mpr (hK _ ?_)); (decide); clear hK K) | (split <;> (with_reducible refine hK _ ?_; clear hK K))))
            all_goals ((with_reducible refine wpQuiet_nil ?_); clear hext; intro w1 hx1; have hb1 := ext_below hx1; clear hx1)
            go_wp2
            all_goals
              go_meet
              case rel => exact ⟨by rw [HBA.out]; rfl, hid hb1⟩
          · by_cases hn : xn = 0
            · have t1 : (xn == 0) = true := by simp [hn]
              have HN := hid hn
              clear hn
              go_wp2
              refine region_ext (by kernel_rfl) (by kernel_rfl) (fun hext => ?_)
              repeat (any_goals ((with_reducible refine wpQuiet_step (fun K hK => ?_)); go_simp; first | (with_reducible refine hK _ ?_; clear hK K) | ((with_reducible apply Exists.intro); (with_reducible refine ⟨fun _ => ?_, hK _ ?_⟩); ((first | (go_at_call 33; exact ext_call _ (Nat.le_refl _) (HROW.out _ (Ext.below _))) | (go_at_call 34; exact ext_call_same _ (HFAR.out _)) | (go_at_call 16; exact ext_call_same _ (HORD.out _ (Ext.below _))))); clear hK K) | ((with_reducible refine (if_neg ?_).mpr (hK _ ?_)); (decide); clear hK K) | (split <;> (with_reducible refine hK _ ?_; clear hK K))))
              all_goals ((with_reducible refine wpQuiet_nil ?_); clear hext; intro w1 hx1; have hb1 := ext_below hx1; clear hx1)
              go_wp2
              all_goals
                go_meet
                case rel => exact ⟨by rw [HBA.out, decide_eq_true HN.out]; simp, hid hb1⟩
            · have t1 : (xn == 0) = false := by simp [hn]
              have HN := hid hn
              clear hn
              cases fb
              · by_cases hi0 : 0 < i
                · obtain ⟨y, yA, yk, g0, g1, g2, g3⟩ := HPRE.out hi0
                  have g0' : W.cell? ⟨b, off + (i - 1) * 2, none⟩ = some (.slice yA y.length yk) := by rw [(bcell HB2.out).1 _ _ (by omega)]; exact g0
                  have HORD := hid (fun w1 (hb : Below W.heap.size W w1) => orderL_any y xr yA xA yk xk w1 (g1.step (Below.step' HB2.out hb)) (HXR.out.step (Below.step' HB2.out hb)) g2 hrw2)
                  obtain ⟨cv, hcv⟩ : ∃ q, q = cmpL y xr := ⟨_, rfl⟩
                  rw [← hcv] at HORD
                  have HBB : Hid (bad = decide (0 ≤ cv)) := hid (by rw [HBA.out, dif_pos hi0, ← g3, ← hcv, decide_eq_false HN.out]; simp)
                  have hi1 : (0 : Int) < (i : Int) := by omega
                  have hw1 : IntKind.i64.wrap ((i : Int) - 1) = (i : Int) - 1 := IntWalk.i64_in _ (by omega)
                  have hi2 : ((i : Int) - 1).toNat = i - 1 := by omega
                  have hi3 : (0 : Int) ≤ (i : Int) - 1 := by omega
                  have hi4 : (1 : Int) ≤ (i : Int) := by omega
                  have hi5 : (i : Int) - 1 < (M.length : Int) := by omega
                  clear hcv g0 g1 g3
                  by_cases hc : 0 ≤ cv
                  · have HC := hid hc
                    have hcd : decide (0 ≤ cv) = true := decide_eq_true hc
                    go_wp2
                    refine region_ext (by kernel_rfl) (by kernel_rfl) (fun hext => ?_)
                    repeat (any_goals ((with_reducible refine wpQuiet_step (fun K hK => ?_)); go_simp; first | (with_reducible refine hK _ ?_; clear hK K) | ((with_reducible apply Exists.intro); (with_reducible refine ⟨fun _ => ?_, hK _ ?_⟩); ((first | (go_at_call 33; exact ext_call _ (Nat.le_refl _) (HROW.out _ (Ext.below _))) | (go_at_call 34; exact ext_call_same _ (HFAR.out _)) | (go_at_call 16; exact ext_call_same _ (HORD.out _ (Ext.below _))))); clear hK K) | ((with_reducible refine (if_neg ?_).mpr (hK _ ?_)); (decide); clear hK K) | (split <;> (with_reducible refine hK _ ?_; clear hK K))))
                    all_goals ((with_reducible refine wpQuiet_nil ?_); clear hext; intro w1 hx1; have hb1 := ext_below hx1; clear hx1)
                    go_wp2
                    all_goals
                      go_meet
                      case rel => exact ⟨by rw [HBB.out, decide_eq_true HC.out], hid hb1⟩
                  · have HC := hid hc
                    have hcd : decide (0 ≤ cv) = false := decide_eq_false hc
                    go_wp2
                    refine region_ext (by kernel_rfl) (by kernel_rfl) (fun hext => ?_)
                    repeat (any_goals ((with_reducible refine wpQuiet_step (fun K hK => ?_)); go_simp; first | (with_reducible refine hK _ ?_; clear hK K) | ((with_reducible apply Exists.intro); (with_reducible refine ⟨fun _ => ?_, hK _ ?_⟩); ((first | (go_at_call 33; exact ext_call _ (Nat.le_refl _) (HROW.out _ (Ext.below _))) | (go_at_call 34; exact ext_call_same _ (HFAR.out _)) | (go_at_call 16; exact ext_call_same _ (HORD.out _ (Ext.below _))))); clear hK K) | ((with_reducible refine (if_neg ?_).mpr (hK _ ?_)); (decide); clear hK K) | (split <;> (with_reducible refine hK _ ?_; clear hK K))))
                    all_goals ((with_reducible refine wpQuiet_nil ?_); clear hext; intro w1 hx1; have hb1 := ext_below hx1; clear hx1)
                    go_wp2
                    all_goals
                      go_meet
                      case rel => exact ⟨by rw [HBB.out, decide_eq_false (by have := HC.out; omega)], hid hb1⟩
                · have HBB : Hid (bad = false) := hid (by rw [HBA.out, dif_neg hi0, decide_eq_false HN.out]; simp)
                  have hi1 : decide ((0 : Int) < (i : Int)) = false := decide_eq_false (by omega)
                  have hi2 : ¬ (0 : Int) < (i : Int) := by omega
                  go_wp2
                  refine region_ext (by kernel_rfl) (by kernel_rfl) (fun hext => ?_)
                  repeat (any_goals ((with_reducible refine wpQuiet_step (fun K hK => ?_)); go_simp; first | (with_reducible refine hK _ ?_; clear hK K) | ((with_reducible apply Exists.intro); (with_reducible refine ⟨fun _ => ?_, hK _ ?_⟩); ((first | (go_at_call 33; exact ext_call _ (Nat.le_refl _) (HROW.out _ (Ext.below _))) | (go_at_call 34; exact ext_call_same _ (HFAR.out _)) | (go_at_call 16; exact ext_call_same _ (HORD.out _ (Ext.below _))))); clear hK K) | ((with_reducible refine (if_neg ?_).mpr (hK _ ?_)); (decide); clear hK K) | (split <;> (with_reducible refine hK _ ?_; clear hK K))))
                  all_goals ((with_reducible refine wpQuiet_nil ?_); clear hext; intro w1 hx1; have hb1 := ext_below hx1; clear hx1)
                  go_wp2
                  all_goals
                    go_meet
                    case rel => exact ⟨by rw [HBB.out], hid hb1⟩
              · go_wp2
                refine region_ext (by kernel_rfl) (by kernel_rfl) (fun hext => ?_)
                repeat (any_goals ((with_reducible refine wpQuiet_step (fun K hK => ?_)); go_simp; first | (with_reducible refine hK _ ?_; clear hK K) | ((with_reducible apply Exists.intro); (with_reducible refine ⟨fun _ => ?_, hK _ ?_⟩); ((first | (go_at_call 33; exact ext_call _ (Nat.le_refl _) (HROW.out _ (Ext.below _))) | (go_at_call 34; exact ext_call_same _ (HFAR.out _)) | (go_at_call 16; exact ext_call_same _ (HORD.out _ (Ext.below _))))); clear hK K) | ((with_reducible refine (if_neg ?_).mpr (hK _ ?_)); (decide); clear hK K) | (split <;> (with_reducible refine hK _ ?_; clear hK K))))
                all_goals ((with_reducible refine wpQuiet_nil ?_); clear hext; intro w1 hx1; have hb1 := ext_below hx1; clear hx1)
                go_wp2
                all_goals
                  go_meet
                  case rel => exact ⟨by rw [HBA.out]; simp, hid hb1⟩
        case rest =>
          obtain ⟨rfl, HB4⟩ := hcut
          have HB5 := hid (Below.step' HBW.out HB4.out)
          cases bad
          · go_wp2_with fail
            go_roundw
            case rel =>
              refine ⟨i + 1, by omega, by go_num, hid (fun j hj => ?_), HB5⟩
              by_cases e : j = i
              · rw [e]; exact HBD.out.symm
              · exact HNO.out j (by omega)
            case measure => simp [intOf]; omega
          · have HD : Hid (E = 5) := hid (by rw [HE.out, if_pos (List.any_eq_true.2 ⟨i, List.mem_range.2 hlt, HBD.out.symm⟩)])
            go_wp2
            go_ret
            exact ⟨ret_int (by rw [HD.out]), HB5.out⟩
      · have HD : Hid (E = 0) := hid (by
          rw [HE.out, if_neg]
          intro h
          obtain ⟨j, hj, e⟩ := List.any_eq_true.1 h
          rw [HNO.out j (by have := List.mem_range.1 hj; omega)] at e
          cases e)
        go_wp2
        go_ret
        exact ⟨ret_int (by rw [HD.out]), HB.out⟩
end Go.Proofs.YtldlmkfigjicgaaGreatDoor
/- slices.SortStableFunc at items: swapRange, rotate. -/
namespace Go.Proofs.YtldlmkfigjicgaaGreatDoor
set_option linter.unusedVariables false
open Go.ChangeShapes Go.WideShapes Go.ChangeAt Go.RowKit Go.Shelf Go.Lib Go.Sort

/-- Items of which something holds. -/
abbrev QI (Q : IR → Prop) := {x : IR // Q x}
abbrev QI.cells {Q : IR → Prop} (x : QI Q) : List Value := x.1.cells
variable {Q : IR → Prop} [Inhabited (QI Q)]

/-- What a walk wants of a place of the row. -/
theorem SWK.at2 {w0 W : World} {blk off : Nat} {dk d0 : Array (QI Q)} (h : SWK (QI.cells (Q := Q)) 2 w0 blk off dk W) (R : RowK (QI.cells (Q := Q)) 2 w0 blk off d0) (hs : dk.size = d0.size) (i : Nat) (hi : i < dk.size) :
    W.cell? ⟨blk, off + i * 2, none⟩ = some (.slice dk[i]!.1.A dk[i]!.1.row.length dk[i]!.1.k) ∧ W.cell? ⟨blk, off + i * 2 + 1, none⟩ = some (.int .i64 dk[i]!.1.n) ∧ W.frozen? ⟨blk, off + i * 2, none⟩ = false ∧ W.frozen? ⟨blk, off + i * 2 + 1, none⟩ = false := by
  have hH := h.holds R.hblk R.hH hs
  have g : ∀ j, j < 2 → W.cell? ⟨blk, off + (i * 2 + j), none⟩ = some (dk[i]!.1.cells[j]!) ∧ W.frozen? ⟨blk, off + (i * 2 + j), none⟩ = false := fun j hj => by
    have := hH (i * 2 + j) (by rw [size_flatK]; omega)
    rw [get_flatK _ _ _ _ (by omega), show (i * 2 + j) / 2 = i by omega, show (i * 2 + j) % 2 = j by omega] at this
    exact this
  have g0 := g 0 (by omega)
  have g1 := g 1 (by omega)
  rw [Nat.add_zero] at g0
  rw [← Nat.add_assoc] at g1
  exact ⟨g0.1, g1.1, g0.2, g1.2⟩

set_option maxHeartbeats 2000000 in
set_option maxRecDepth 100000 in
theorem swap_range (g : Nat) (cb : Array Value) (blk off cap a b n : Nat) (d0 d : Array (QI Q)) (w0 w : World)
    (R : RowK (QI.cells (Q := Q)) 2 w0 blk off d0) (hs : d.size = d0.size) (S : SWK (QI.cells (Q := Q)) 2 w0 blk off d w) (ha : a + n ≤ b) (hb : b + n ≤ d.size) (hsz : d.size < 4611686018427387904) :
    Calls Tryz.prog 158 #[.slice (some ⟨blk, off, none⟩) d.size cap, .int .i64 a, .int .i64 b, .int .i64 n, .func (.func g) #[] cb] w fun e w' => e = .returned (.tuple #[]) ∧ SWK (QI.cells (Q := Q)) 2 w0 blk off (swapRange a b n d) w' := by
  have S0 := hid S
  have HR := hid R
  have HS := hid hs
  clear S R hs
  go_enter Tryz.func158, Tryz.ntmps158
  go_wp2
  go_loopw [10] (fun v wr => ∃ i : Nat, i ≤ n ∧ v = .int .i64 i ∧ Hid (SWK (QI.cells (Q := Q)) 2 w0 blk off (swapRange a b i d) wr)) (fun v _ => n - (intOf v).toNat)
  case atStart => exact ⟨0, by omega, rfl, S0⟩
  case round =>
    obtain ⟨i, hi, rfl, S1h⟩ := hrel
    by_cases hlt : i < n
    · have S1 := S1h.out
      have hds := swapRange_size a b d i
      have e1 : (swapRange a b i d).size = d0.size := hds.trans HS.out
      have HQ := hid (show swapRange a b (i + 1) d = swp (swapRange a b i d) (a + i) (b + i) from rfl)
      obtain ⟨D, hD⟩ : ∃ D, D = swapRange a b i d := ⟨_, rfl⟩
      rw [← hD] at S1 hds e1 HQ
      clear hD
      obtain ⟨c0, c1, f0, f1⟩ := SWK.at2 S1 HR.out e1 (a + i) (by omega)
      obtain ⟨k0, k1, h0, h1⟩ := SWK.at2 S1 HR.out e1 (b + i) (by omega)
      have S2 := hid (S1.swapped HR.out (a + i) (b + i) (by omega) (by omega))
      generalize D[a + i]! = x at *
      generalize D[b + i]! = y at *
      obtain ⟨⟨xr, xA, xk, xn⟩, hqx⟩ := x
      obtain ⟨⟨yr, yA, yk, yn⟩, hqy⟩ := y
      simp only at c0 c1 k0 k1
      have ea : ((a : Int) + (i : Int)).toNat = a + i := by omega
      have ra : IntKind.i64.wrap ((a : Int) + (i : Int)) = (a : Int) + (i : Int) := by rw [IntKind.wrap_i64]; omega
      have pa : (0 : Int) ≤ (a : Int) + (i : Int) := by omega
      have ba : (a : Int) + (i : Int) < (d.size : Int) := by omega
      have eb : ((b : Int) + (i : Int)).toNat = b + i := by omega
      have rb : IntKind.i64.wrap ((b : Int) + (i : Int)) = (b : Int) + (i : Int) := by rw [IntKind.wrap_i64]; omega
      have pb : (0 : Int) ≤ (b : Int) + (i : Int) := by omega
      have bb : (b : Int) + (i : Int) < (d.size : Int) := by omega
      have n0 : (off + (a + i) * 2 = off + (b + i) * 2) = False := by simp; omega
      have m0 : (off + (b + i) * 2 = off + (a + i) * 2) = False := by simp; omega
      have n1 : (off + (a + i) * 2 = off + (b + i) * 2 + 1) = False := by simp; omega
      have m1 : (off + (b + i) * 2 + 1 = off + (a + i) * 2) = False := by simp; omega
      have n2 : (off + (a + i) * 2 + 1 = off + (b + i) * 2) = False := by simp; omega
      have m2 : (off + (b + i) * 2 = off + (a + i) * 2 + 1) = False := by simp; omega
      have n3 : (off + (a + i) * 2 + 1 = off + (b + i) * 2 + 1) = False := by simp; omega
      have m3 : (off + (b + i) * 2 + 1 = off + (a + i) * 2 + 1) = False := by simp; omega
      clear hds e1 S1
      go_wp2_with fail
      go_big_region
      go_wp2
      go_roundw
      case rel => exact ⟨i + 1, by omega, by go_num, by rw [HQ.out]; exact S2⟩
      case measure => simp [intOf]; omega
    · have e : i = n := by omega
      have HE := hid e
      clear e
      go_wp2
      go_end0
      exact ⟨rfl, by have := S1h.out; rwa [HE.out] at this⟩

set_option maxHeartbeats 2000000 in
set_option maxRecDepth 100000 in
theorem rotate (g : Nat) (cb : Array Value) (blk off cap a m b : Nat) (d0 d : Array (QI Q)) (w0 w : World)
    (R : RowK (QI.cells (Q := Q)) 2 w0 blk off d0) (hs : d.size = d0.size) (S : SWK (QI.cells (Q := Q)) 2 w0 blk off d w) (ha : a < m) (hm : m < b) (hb : b ≤ d.size) (hsz : d.size < 4611686018427387904) :
    Calls Tryz.prog 146 #[.slice (some ⟨blk, off, none⟩) d.size cap, .int .i64 a, .int .i64 m, .int .i64 b, .func (.func g) #[] cb] w fun e w' => e = .returned (.tuple #[]) ∧
      ∃ d', Rot d a m b d' ∧ PermIn a b d d' ∧ SWK (QI.cells (Q := Q)) 2 w0 blk off d' w' := by
  have S0 := hid S
  have HR := hid R
  have HS := hid hs
  clear S R hs
  have wa : IntKind.i64.wrap ((m : Int) - (a : Int)) = (m : Int) - a := IntWalk.i64_in _ (by omega)
  have wb : IntKind.i64.wrap ((b : Int) - (m : Int)) = (b : Int) - m := IntWalk.i64_in _ (by omega)
  go_enter Tryz.func146, Tryz.ntmps146
  go_wp2_with fail
  -- STOP-ra
  go_loopg [10, 11] (b - a) (fun gg s10 s11 wr => ∃ (i j : Nat) (D : Array (QI Q)), s10 = .int .i64 i ∧ s11 = .int .i64 j ∧ 0 < i ∧ 0 < j ∧ a + i ≤ m ∧ m + j ≤ b ∧ i + j ≤ gg + 0 ∧ D.size = d.size ∧ Hid (PermIn a b d D) ∧ Hid (∀ d', Rot D (m - i) m (m + j) d' → Rot d a m b d') ∧ Hid (SWK (QI.cells (Q := Q)) 2 w0 blk off D wr))
  case atStart => exact ⟨m - a, b - m, d, by rw [show ((m - a : Nat) : Int) = (m : Int) - a by omega], by rw [show ((b - m : Nat) : Int) = (b : Int) - m by omega], by omega, by omega, by omega, by omega, by omega, rfl, perm_refl _ _ _, fun d' h => by rwa [show m - (m - a) = a by omega, show m + (b - m) = b by omega] at h, S0⟩
  case round =>
    clear S0 wa wb
    obtain ⟨i, j, D, rfl, rfl, hi0, hj0, hi, hj, hg, hD, HP, HROT, S1⟩ := hrel
    have wi : IntKind.i64.wrap ((m : Int) - (i : Int)) = (m : Int) - i := IntWalk.i64_in _ (by omega)
    have zi : (m : Int) - (i : Int) = ((m - i : Nat) : Int) := by omega
    have HDS := hid hD
    by_cases hij : i = j
    · subst hij
      have hc := swap_range g cb blk off cap (m - i) m i d0 D w0 wr HR.out (hD.trans HS.out) S1.out (by omega) (by omega) (by omega)
      have hr := rot_end (d := D) (m := m) (i := i) (by omega) (by omega)
      have hp : PermIn a b D (swapRange (m - i) m i D) := swapRange_perm i (by omega) (by omega) (by omega) (by omega) (by omega)
      rw [hD] at hc
      have HC := hid hc
      have HRR := hid (show Rot d a m b (swapRange (m - i) m i D) from HROT.out _ hr)
      have HPP := hid (perm_trans HP.out hp)
      have ZI := hid zi
      clear hc hr hp zi hD
      go_wp2_with fail
      -- STOP-rb
      rw [ZI.out]
      refine HC.out.mono ?_
      rintro e w' ⟨rfl, S2⟩
      go_wp2
      go_end0
      exact ⟨rfl, _, HRR.out, HPP.out, S2⟩
    · by_cases hlt : j < i
      · have hc := swap_range g cb blk off cap (m - i) m j d0 D w0 wr HR.out (hD.trans HS.out) S1.out (by omega) (by omega) (by omega)
        have hp : PermIn a b D (swapRange (m - i) m j D) := swapRange_perm j (by omega) (by omega) (by omega) (by omega) (by omega)
        rw [hD] at hc
        have HC := hid hc
        have HRR := hid (fun d' (h : Rot (swapRange (m - i) m j D) (m - (i - j)) m (m + j) d') => HROT.out _ (rot_left hlt (by omega) (by omega) h))
        have HPP := hid (perm_trans HP.out hp)
        have HSZ := hid ((swapRange_size (m - i) m D j).trans hD)
        have ZI := hid zi
        have w2 : IntKind.i64.wrap ((i : Int) - (j : Int)) = (i : Int) - j := IntWalk.i64_in _ (by omega)
        have hne : ((i : Int) != (j : Int)) = true := by simp; omega
        clear hc hp zi hD hij
        go_wp2_with fail
        rw [ZI.out]
        refine HC.out.mono ?_
        rintro e w' ⟨rfl, S2⟩
        have HS2 := hid S2
        clear S2
        go_wp2
        clear wi w2
        go_roundg (i - j + j)
        case measure => omega
        case rel => exact ⟨i - j, j, _, by congr 1; omega, rfl, by omega, by omega, by omega, by omega, by omega, HSZ.out, HPP, HRR, HS2⟩
      · have hlt2 : i < j := by omega
        have hc := swap_range g cb blk off cap (m - i) (m + j - i) i d0 D w0 wr HR.out (hD.trans HS.out) S1.out (by omega) (by omega) (by omega)
        have hp : PermIn a b D (swapRange (m - i) (m + j - i) i D) := swapRange_perm i (by omega) (by omega) (by omega) (by omega) (by omega)
        rw [hD] at hc
        have HC := hid hc
        have HRR := hid (fun d' (h : Rot (swapRange (m - i) (m + j - i) i D) (m - i) m (m + (j - i)) d') => HROT.out _ (rot_right (by omega) (by omega) (by omega) h))
        have HPP := hid (perm_trans HP.out hp)
        have HSZ := hid ((swapRange_size (m - i) (m + j - i) D i).trans hD)
        have ZI := hid zi
        have w2 : IntKind.i64.wrap ((j : Int) - (i : Int)) = (j : Int) - i := IntWalk.i64_in _ (by omega)
        have w3 : IntKind.i64.wrap ((m : Int) + (j : Int)) = (m : Int) + j := IntWalk.i64_in _ (by omega)
        have w4 : IntKind.i64.wrap ((m : Int) + (j : Int) - (i : Int)) = (m : Int) + j - i := IntWalk.i64_in _ (by omega)
        have ZJ : Hid ((m : Int) + (j : Int) - (i : Int) = ((m + j - i : Nat) : Int)) := hid (by omega)
        have hne : ((i : Int) != (j : Int)) = true := by simp; omega
        clear hc hp zi hD hij
        go_wp2_with fail
        rw [ZI.out, ZJ.out]
        refine HC.out.mono ?_
        rintro e w' ⟨rfl, S2⟩
        have HS2 := hid S2
        clear S2
        go_wp2
        clear wi w2 w3 w4
        go_roundg (i + (j - i))
        case measure => omega
        case rel => exact ⟨i, j - i, _, rfl, by congr 1; omega, by omega, by omega, by omega, by omega, by omega, HSZ.out, HPP, HRR, HS2⟩
end Go.Proofs.YtldlmkfigjicgaaGreatDoor
/- slices.SortStableFunc at items: symMerge. -/
namespace Go.Proofs.YtldlmkfigjicgaaGreatDoor
set_option linter.unusedVariables false
open Go.ChangeShapes Go.WideShapes Go.ChangeAt Go.RowKit Go.Shelf Go.Lib Go.Sort
variable {Q : IR → Prop} [Inhabited (QI Q)]

set_option maxHeartbeats 4000000 in
set_option maxRecDepth 100000 in
theorem sym_left (cf : QI Q → QI Q → Int) (g : Nat) (cb : Array Value) (blk off cap : Nat) (d0 : Array (QI Q)) (w0 : World) (eg : ∀ args w, (callFunc g args).run Tryz.prog w = .ok (.enter g args) w) (hC : CmpLays Tryz.prog g cb (QI.cells (Q := Q)) 2 cf blk off d0.size w0)
    (R : RowK (QI.cells (Q := Q)) 2 w0 blk off d0) (hS : SWO (ltOf cf)) (hsz : d0.size < 4611686018427387904) (a m b : Nat) (d : Array (QI Q)) (w : World)
    (hm : m = a + 1) (hmb : m < b) (hb : b ≤ d.size) (hs : d.size = d0.size) (hr : SortedIn (ltOf cf) m b d) (S : SWK (QI.cells (Q := Q)) 2 w0 blk off d w) :
    Calls Tryz.prog 113 #[.slice (some ⟨blk, off, none⟩) d.size cap, .int .i64 a, .int .i64 m, .int .i64 b, .func (.func g) #[] cb] w fun e w' => e = .returned (.tuple #[]) ∧ ∃ d', PermIn a b d d' ∧ SortedIn (ltOf cf) a b d' ∧ SWK (QI.cells (Q := Q)) 2 w0 blk off d' w' := by
  have mixed : Tryz.prog.follows .mixedOrders = true := by kernel_rfl
  have HC := hid hC
  have HR := hid R
  have HS := hid hs
  have HSR := hid hr
  have HM := hid hm
  have S0 := hid S
  have hdz : d.size < 4611686018427387904 := by omega
  have h1 : a + 1 ≤ m := by omega
  have t1 : ((m : Int) - (a : Int) == 1) = true := by simp; omega
  have w1 : IntKind.i64.wrap ((m : Int) - (a : Int)) = (m : Int) - a := IntWalk.i64_in _ (by omega)
  clear hC R hs hr S hm
  go_enter Tryz.func113, Tryz.ntmps113
  go_wp2_with fail
  -- STOP-la
  go_loopg [10, 11] (b - m) (fun gg s10 s11 wr => ∃ i j : Nat, s10 = .int .i64 i ∧ s11 = .int .i64 j ∧ m ≤ i ∧ i ≤ j ∧ j ≤ b ∧ j - i ≤ gg + 0 ∧ Hid (i = m ∨ ltOf cf d[i - 1]! d[a]! = true) ∧ Hid (j = b ∨ ltOf cf d[j]! d[a]! = false) ∧ Hid (SWK (QI.cells (Q := Q)) 2 w0 blk off d wr))
  case atStart => exact ⟨m, b, rfl, rfl, Nat.le_refl _, by omega, Nat.le_refl _, by omega, hid (.inl rfl), hid (.inl rfl), S0⟩
  case round =>
    clear S0 t1 w1
    obtain ⟨i, j, rfl, rfl, hi, hij, hj, hg, H1, H2, S1h⟩ := hrel
    by_cases hlt : i < j
    · have S1 := S1h.out
      have c0 := fun n' os' => (SWK.at2 (S1.grown n' os') HR.out HS.out ((i + j) / 2) (by omega)).1
      have c1 := fun n' os' => (SWK.at2 (S1.grown n' os') HR.out HS.out ((i + j) / 2) (by omega)).2.1
      have k0 := fun n' os' => (SWK.at2 (S1.grown n' os') HR.out HS.out (a) (by omega)).1
      have k1 := fun n' os' => (SWK.at2 (S1.grown n' os') HR.out HS.out (a) (by omega)).2.1
      have hcg := fun n' os' => S1.cmp HC.out HS.out d[(i + j) / 2]! d[a]! n' os'
      have SG := hid (fun n' os' => S1.grown n' os')
      have HLV := hid (show ltOf cf d[(i + j) / 2]! d[a]! = decide (cf d[(i + j) / 2]! d[a]! < 0) from rfl)
      obtain ⟨x, hx⟩ : ∃ x, x = d[(i + j) / 2]! := ⟨_, rfl⟩
      obtain ⟨y, hy⟩ : ∃ y, y = d[a]! := ⟨_, rfl⟩
      rw [← hx] at c0 c1 hcg
      rw [← hy] at k0 k1 hcg
      have HX := hid hx
      have HY := hid hy
      clear hx hy
      obtain ⟨cv, hcv⟩ : ∃ cv, cv = cf x y := ⟨_, rfl⟩
      rw [← hcv] at hcg
      have HCV := hid hcv
      clear hcv
      obtain ⟨⟨xr, xA, xk, xn⟩, hqx⟩ := x
      obtain ⟨⟨yr, yA, yk, yn⟩, hqy⟩ := y
      simp only [QI.cells, IR.cells] at c0 c1 k0 k1 hcg
      have ea : (((i : Int) + (j : Int)) / 2).toNat = (i + j) / 2 := by omega
      have ra : IntKind.i64.wrap (((i : Int) + (j : Int)) / 2) = ((i : Int) + (j : Int)) / 2 := by rw [IntKind.wrap_i64]; omega
      have pa : (0 : Int) ≤ ((i : Int) + (j : Int)) / 2 := by omega
      have ba : ((i : Int) + (j : Int)) / 2 < (d.size : Int) := by omega
      have pb : (0 : Int) ≤ (a : Int) := by omega
      have bb : (a : Int) < (d.size : Int) := by omega
      clear S1
      by_cases hlv : cv < 0
      · go_wp2_with fail
        -- STOP-lb
        go_quiet_grown (first | (go_at_fn g; refine Calls.grown_of (hcg _ _)))
        clear c0 c1 k0 k1 hcg
        go_wp2
        go_roundg (j - ((i + j) / 2 + 1))
        case measure => omega
        case rel => exact ⟨(i + j) / 2 + 1, j, by congr 1 <;> omega, rfl, by omega, by omega, by omega, by omega, hid (.inr (by rw [Nat.add_sub_cancel, HLV.out, ← HX.out, ← HY.out, ← HCV.out]; exact decide_eq_true hlv)), H2, hid (SG.out nq osq)⟩
      · have hlvd : decide (cv < 0) = false := decide_eq_false hlv
        go_wp2_with fail
        go_quiet_grown (first | (go_at_fn g; refine Calls.grown_of (hcg _ _)))
        clear c0 c1 k0 k1 hcg
        go_wp2
        go_roundg ((i + j) / 2 - i)
        case measure => omega
        case rel => exact ⟨i, (i + j) / 2, rfl, by congr 1 <;> omega, by omega, by omega, by omega, by omega, H1, hid (.inr (by rw [HLV.out, ← HX.out, ← HY.out, ← HCV.out]; exact decide_eq_false (by omega))), hid (SG.out nq osq)⟩
    · have e : j = i := by omega
      subst e
      have hmg := hid (merge_up hS (d := d) (a := a) (b := b) (i := j) (by omega) (by omega) hb (by rw [← HM.out]; exact HSR.out) (by rcases H1.out with h | h; exact .inl (by rw [h]; exact HM.out); exact .inr h) H2.out)
      have wj : IntKind.i64.wrap ((j : Int) - 1) = (j : Int) - 1 := IntWalk.i64_in _ (by omega)
      clear H1 H2
      go_wp2_with fail
      -- STOP-lc
      go_loopw [13] (fun v wr => ∃ k : Nat, a ≤ k ∧ k + 1 ≤ j ∧ v = .int .i64 k ∧ Hid (SWK (QI.cells (Q := Q)) 2 w0 blk off (upTo a (k - a) d) wr)) (fun v _ => j - (intOf v).toNat)
      case atStart => exact ⟨a, by omega, by omega, rfl, by rw [Nat.sub_self]; exact S1h⟩
      case round =>
        clear S1h
        obtain ⟨k, hk, hkj, rfl, S2h⟩ := hrel
        by_cases hlt2 : k + 1 < j
        · have S1 := S2h.out
          have hds := upTo_size a d (k - a)
          have e1 : (upTo a (k - a) d).size = d0.size := hds.trans HS.out
          have HQ : Hid (upTo a (k + 1 - a) d = swp (upTo a (k - a) d) k (k + 1)) := hid (by
            rw [show k + 1 - a = (k - a) + 1 by omega, upTo, show a + (k - a) = k by omega])
          obtain ⟨D, hD⟩ : ∃ D, D = upTo a (k - a) d := ⟨_, rfl⟩
          rw [← hD] at S1 hds e1 HQ
          clear hD S2h
          obtain ⟨c0, c1, f0, f1⟩ := SWK.at2 S1 HR.out e1 (k) (by omega)
          obtain ⟨k0, k1, h0, h1⟩ := SWK.at2 S1 HR.out e1 (k + 1) (by omega)
          have S2 := hid (S1.swapped HR.out (k) (k + 1) (by omega) (by omega))
          generalize D[k]! = x at *
          generalize D[k + 1]! = y at *
          obtain ⟨⟨xr, xA, xk, xn⟩, hqx⟩ := x
          obtain ⟨⟨yr, yA, yk, yn⟩, hqy⟩ := y
          simp only at c0 c1 k0 k1
          have pa : (0 : Int) ≤ (k : Int) := by omega
          have ba : (k : Int) < (d.size : Int) := by omega
          have eb : ((k : Int) + 1).toNat = k + 1 := by omega
          have rb : IntKind.i64.wrap ((k : Int) + 1) = (k : Int) + 1 := by rw [IntKind.wrap_i64]; omega
          have pb : (0 : Int) ≤ (k : Int) + 1 := by omega
          have bb : (k : Int) + 1 < (d.size : Int) := by omega
          have n0 : (off + (k) * 2 = off + (k + 1) * 2) = False := by simp; omega
          have m0 : (off + (k + 1) * 2 = off + (k) * 2) = False := by simp; omega
          have n1 : (off + (k) * 2 = off + (k + 1) * 2 + 1) = False := by simp; omega
          have m1 : (off + (k + 1) * 2 + 1 = off + (k) * 2) = False := by simp; omega
          have n2 : (off + (k) * 2 + 1 = off + (k + 1) * 2) = False := by simp; omega
          have m2 : (off + (k + 1) * 2 = off + (k) * 2 + 1) = False := by simp; omega
          have n3 : (off + (k) * 2 + 1 = off + (k + 1) * 2 + 1) = False := by simp; omega
          have m3 : (off + (k + 1) * 2 + 1 = off + (k) * 2 + 1) = False := by simp; omega
          have lz : (k : Int) < (j : Int) - 1 := by omega
          clear hds e1 S1
          go_wp2_with fail
          go_big_region
          go_wp2
          go_roundw
          case rel => exact ⟨k + 1, by omega, by omega, by go_num, by rw [HQ.out]; exact S2⟩
          case measure => simp [intOf]; omega
        · have e : k = j - 1 := by omega
          have lz : ¬ (k : Int) < (j : Int) - 1 := by omega
          have lz2 : (j : Int) - 1 ≤ (k : Int) := by omega
          have lz3 : decide ((k : Int) < (j : Int) - 1) = false := decide_eq_false lz
          have lz4 : (j : Int) ≤ (k : Int) + 1 := by omega
          have HE := hid e
          clear e
          go_wp2
          (try simp only [Exit.inBlock, Exit.then])
          refine bodyPost_ret (results_none rfl _ _ _) rfl ?_
          have S3 := S2h.out
          rw [HE.out] at S3
          exact ⟨rfl, _, hmg.out.1, hmg.out.2, S3⟩

set_option maxHeartbeats 4000000 in
set_option maxRecDepth 100000 in
theorem sym_right (cf : QI Q → QI Q → Int) (g : Nat) (cb : Array Value) (blk off cap : Nat) (d0 : Array (QI Q)) (w0 : World) (eg : ∀ args w, (callFunc g args).run Tryz.prog w = .ok (.enter g args) w) (hC : CmpLays Tryz.prog g cb (QI.cells (Q := Q)) 2 cf blk off d0.size w0)
    (R : RowK (QI.cells (Q := Q)) 2 w0 blk off d0) (hS : SWO (ltOf cf)) (hsz : d0.size < 4611686018427387904) (a m b : Nat) (d : Array (QI Q)) (w : World)
    (ham : a + 1 < m) (hmb : b = m + 1) (hb : b ≤ d.size) (hs : d.size = d0.size) (hl : SortedIn (ltOf cf) a m d) (S : SWK (QI.cells (Q := Q)) 2 w0 blk off d w) :
    Calls Tryz.prog 113 #[.slice (some ⟨blk, off, none⟩) d.size cap, .int .i64 a, .int .i64 m, .int .i64 b, .func (.func g) #[] cb] w fun e w' => e = .returned (.tuple #[]) ∧ ∃ d', PermIn a b d d' ∧ SortedIn (ltOf cf) a b d' ∧ SWK (QI.cells (Q := Q)) 2 w0 blk off d' w' := by
  have mixed : Tryz.prog.follows .mixedOrders = true := by kernel_rfl
  have HC := hid hC
  have HR := hid R
  have HS := hid hs
  have HSL := hid hl
  have HM := hid hmb
  have S0 := hid S
  have hdz : d.size < 4611686018427387904 := by omega
  have hm2 : m < d.size := by omega
  have t1 : ((m : Int) - (a : Int) == 1) = false := by simp; omega
  have t2 : ((b : Int) - (m : Int) == 1) = true := by simp; omega
  have w1 : IntKind.i64.wrap ((m : Int) - (a : Int)) = (m : Int) - a := IntWalk.i64_in _ (by omega)
  have w2 : IntKind.i64.wrap ((b : Int) - (m : Int)) = (b : Int) - m := IntWalk.i64_in _ (by omega)
  clear hC R hs hl S hmb
  go_enter Tryz.func113, Tryz.ntmps113
  go_wp2_with fail
  go_loopg [14, 15] (m - a) (fun gg s14 s15 wr => ∃ i j : Nat, s14 = .int .i64 i ∧ s15 = .int .i64 j ∧ a ≤ i ∧ i ≤ j ∧ j ≤ m ∧ j - i ≤ gg + 0 ∧ Hid (i = a ∨ ltOf cf d[m]! d[i - 1]! = false) ∧ Hid (j = m ∨ ltOf cf d[m]! d[j]! = true) ∧ Hid (SWK (QI.cells (Q := Q)) 2 w0 blk off d wr))
  case atStart => exact ⟨a, m, rfl, rfl, Nat.le_refl _, by omega, Nat.le_refl _, by omega, hid (.inl rfl), hid (.inl rfl), S0⟩
  case round =>
    clear S0 t1 w1 t2 w2
    obtain ⟨i, j, rfl, rfl, hi, hij, hj, hg, H1, H2, S1h⟩ := hrel
    by_cases hlt : i < j
    · have S1 := S1h.out
      have c0 := fun n' os' => (SWK.at2 (S1.grown n' os') HR.out HS.out (m) (by omega)).1
      have c1 := fun n' os' => (SWK.at2 (S1.grown n' os') HR.out HS.out (m) (by omega)).2.1
      have k0 := fun n' os' => (SWK.at2 (S1.grown n' os') HR.out HS.out ((i + j) / 2) (by omega)).1
      have k1 := fun n' os' => (SWK.at2 (S1.grown n' os') HR.out HS.out ((i + j) / 2) (by omega)).2.1
      have hcg := fun n' os' => S1.cmp HC.out HS.out d[m]! d[(i + j) / 2]! n' os'
      have SG := hid (fun n' os' => S1.grown n' os')
      have HLV := hid (show ltOf cf d[m]! d[(i + j) / 2]! = decide (cf d[m]! d[(i + j) / 2]! < 0) from rfl)
      obtain ⟨x, hx⟩ : ∃ x, x = d[m]! := ⟨_, rfl⟩
      obtain ⟨y, hy⟩ : ∃ y, y = d[(i + j) / 2]! := ⟨_, rfl⟩
      rw [← hx] at c0 c1 hcg
      rw [← hy] at k0 k1 hcg
      have HX := hid hx
      have HY := hid hy
      clear hx hy
      obtain ⟨cv, hcv⟩ : ∃ cv, cv = cf x y := ⟨_, rfl⟩
      rw [← hcv] at hcg
      have HCV := hid hcv
      clear hcv
      obtain ⟨⟨xr, xA, xk, xn⟩, hqx⟩ := x
      obtain ⟨⟨yr, yA, yk, yn⟩, hqy⟩ := y
      simp only [QI.cells, IR.cells] at c0 c1 k0 k1 hcg
      have pa : (0 : Int) ≤ (m : Int) := by omega
      have ba : (m : Int) < (d.size : Int) := by omega
      have eb : (((i : Int) + (j : Int)) / 2).toNat = (i + j) / 2 := by omega
      have rb : IntKind.i64.wrap (((i : Int) + (j : Int)) / 2) = ((i : Int) + (j : Int)) / 2 := by rw [IntKind.wrap_i64]; omega
      have pb : (0 : Int) ≤ ((i : Int) + (j : Int)) / 2 := by omega
      have bb : ((i : Int) + (j : Int)) / 2 < (d.size : Int) := by omega
      clear S1
      by_cases hlv : cv < 0
      · go_wp2_with fail
        go_quiet_grown (first | (go_at_fn g; refine Calls.grown_of (hcg _ _)))
        clear c0 c1 k0 k1 hcg
        go_wp2
        go_roundg ((i + j) / 2 - i)
        case measure => omega
        case rel => exact ⟨i, (i + j) / 2, rfl, by congr 1 <;> omega, by omega, by omega, by omega, by omega, H1, hid (.inr (by rw [HLV.out, ← HX.out, ← HY.out, ← HCV.out]; exact decide_eq_true hlv)), hid (SG.out nq osq)⟩
      · have hlvd : decide (cv < 0) = false := decide_eq_false hlv
        go_wp2_with fail
        go_quiet_grown (first | (go_at_fn g; refine Calls.grown_of (hcg _ _)))
        clear c0 c1 k0 k1 hcg
        go_wp2
        go_roundg (j - ((i + j) / 2 + 1))
        case measure => omega
        case rel => exact ⟨(i + j) / 2 + 1, j, by congr 1 <;> omega, rfl, by omega, by omega, by omega, by omega, hid (.inr (by rw [Nat.add_sub_cancel, HLV.out, ← HX.out, ← HY.out, ← HCV.out]; exact decide_eq_false (by omega))), H2, hid (SG.out nq osq)⟩
    · have e : j = i := by omega
      subst e
      have hmg := hid (merge_down hS (d := d) (a := a) (m := m) (i := j) (by omega) (by omega) (by omega) HSL.out H1.out H2.out)
      clear H1 H2
      go_wp2_with fail
      go_loopw [17] (fun v wr => ∃ k : Nat, j ≤ k ∧ k ≤ m ∧ v = .int .i64 k ∧ Hid (SWK (QI.cells (Q := Q)) 2 w0 blk off (downTo m (m - k) d) wr)) (fun v _ => (intOf v).toNat)
      case atStart => exact ⟨m, by omega, by omega, rfl, by rw [Nat.sub_self]; exact S1h⟩
      case round =>
        clear S1h
        obtain ⟨k, hk, hkj, rfl, S2h⟩ := hrel
        by_cases hlt2 : j < k
        · have S1 := S2h.out
          have hds := downTo_size m d (m - k)
          have e1 : (downTo m (m - k) d).size = d0.size := hds.trans HS.out
          have HQ : Hid (downTo m (m - (k - 1)) d = swp (downTo m (m - k) d) k (k - 1)) := hid (by
            rw [show m - (k - 1) = (m - k) + 1 by omega, downTo, show m - (m - k) = k by omega])
          obtain ⟨D, hD⟩ : ∃ D, D = downTo m (m - k) d := ⟨_, rfl⟩
          rw [← hD] at S1 hds e1 HQ
          clear hD S2h
          obtain ⟨c0, c1, f0, f1⟩ := SWK.at2 S1 HR.out e1 (k) (by omega)
          obtain ⟨k0, k1, h0, h1⟩ := SWK.at2 S1 HR.out e1 (k - 1) (by omega)
          have S2 := hid (S1.swapped HR.out (k) (k - 1) (by omega) (by omega))
          generalize D[k]! = x at *
          generalize D[k - 1]! = y at *
          obtain ⟨⟨xr, xA, xk, xn⟩, hqx⟩ := x
          obtain ⟨⟨yr, yA, yk, yn⟩, hqy⟩ := y
          simp only at c0 c1 k0 k1
          have pa : (0 : Int) ≤ (k : Int) := by omega
          have ba : (k : Int) < (d.size : Int) := by omega
          have eb : ((k : Int) - 1).toNat = k - 1 := by omega
          have rb : IntKind.i64.wrap ((k : Int) - 1) = (k : Int) - 1 := by rw [IntKind.wrap_i64]; omega
          have pb : (0 : Int) ≤ (k : Int) - 1 := by omega
          have bb : (k : Int) - 1 < (d.size : Int) := by omega
          have n0 : (off + (k) * 2 = off + (k - 1) * 2) = False := by simp; omega
          have m0 : (off + (k - 1) * 2 = off + (k) * 2) = False := by simp; omega
          have n1 : (off + (k) * 2 = off + (k - 1) * 2 + 1) = False := by simp; omega
          have m1 : (off + (k - 1) * 2 + 1 = off + (k) * 2) = False := by simp; omega
          have n2 : (off + (k) * 2 + 1 = off + (k - 1) * 2) = False := by simp; omega
          have m2 : (off + (k - 1) * 2 = off + (k) * 2 + 1) = False := by simp; omega
          have n3 : (off + (k) * 2 + 1 = off + (k - 1) * 2 + 1) = False := by simp; omega
          have m3 : (off + (k - 1) * 2 + 1 = off + (k) * 2 + 1) = False := by simp; omega
          have zk : ((k - 1 : Nat) : Int) = (k : Int) - 1 := by omega
          have ZK := hid zk
          clear hds e1 S1 zk
          go_wp2_with fail
          go_big_region
          go_wp2
          go_roundw
          case rel => exact ⟨k - 1, by omega, by omega, by rw [ZK.out], by rw [HQ.out]; exact S2⟩
          case measure => simp [intOf]; omega
        · have e : k = j := by omega
          have HE := hid e
          clear e
          go_wp2
          (try simp only [Exit.inBlock, Exit.then])
          refine bodyPost_ret (results_none rfl _ _ _) rfl ?_
          have S3 := S2h.out
          rw [HE.out] at S3
          refine ⟨rfl, _, ?_, ?_, S3⟩
          · rw [HM.out]; exact hmg.out.1
          · rw [HM.out]; exact hmg.out.2
end Go.Proofs.YtldlmkfigjicgaaGreatDoor
/- slices.SortStableFunc at items: symMerge, whole. -/
namespace Go.Proofs.YtldlmkfigjicgaaGreatDoor
set_option linter.unusedVariables false
open Go.ChangeShapes Go.WideShapes Go.ChangeAt Go.RowKit Go.Shelf Go.Lib Go.Sort
variable {Q : IR → Prop} [Inhabited (QI Q)]

set_option maxHeartbeats 4000000 in
set_option maxRecDepth 100000 in
theorem sym_main (cf : QI Q → QI Q → Int) (g : Nat) (cb : Array Value) (blk off cap : Nat) (d0 : Array (QI Q)) (w0 : World) (eg : ∀ args w, (callFunc g args).run Tryz.prog w = .ok (.enter g args) w) (hC : CmpLays Tryz.prog g cb (QI.cells (Q := Q)) 2 cf blk off d0.size w0)
    (R : RowK (QI.cells (Q := Q)) 2 w0 blk off d0) (hS : SWO (ltOf cf)) (hsz : d0.size < 4611686018427387904) (a m b : Nat) (d : Array (QI Q)) (w : World)
    (ham : a + 1 < m) (hmb : m + 1 < b) (hb : b ≤ d.size) (hs : d.size = d0.size) (hl : SortedIn (ltOf cf) a m d) (hr : SortedIn (ltOf cf) m b d) (S : SWK (QI.cells (Q := Q)) 2 w0 blk off d w)
    (ih : ∀ (a' m' b' : Nat) (d : Array (QI Q)) (w : World), b' - a' < b - a → a' < m' → m' < b' → b' ≤ d.size → d.size = d0.size → SortedIn (ltOf cf) a' m' d → SortedIn (ltOf cf) m' b' d → SWK (QI.cells (Q := Q)) 2 w0 blk off d w →
      Calls Tryz.prog 113 #[.slice (some ⟨blk, off, none⟩) d.size cap, .int .i64 a', .int .i64 m', .int .i64 b', .func (.func g) #[] cb] w fun e w' => e = .returned (.tuple #[]) ∧ ∃ d', PermIn a' b' d d' ∧ SortedIn (ltOf cf) a' b' d' ∧ SWK (QI.cells (Q := Q)) 2 w0 blk off d' w') :
    Calls Tryz.prog 113 #[.slice (some ⟨blk, off, none⟩) d.size cap, .int .i64 a, .int .i64 m, .int .i64 b, .func (.func g) #[] cb] w fun e w' => e = .returned (.tuple #[]) ∧ ∃ d', PermIn a b d d' ∧ SortedIn (ltOf cf) a b d' ∧ SWK (QI.cells (Q := Q)) 2 w0 blk off d' w' := by
  have mixed : Tryz.prog.follows .mixedOrders = true := by kernel_rfl
  have HC := hid hC
  have HR := hid R
  have HS := hid hs
  have HSL := hid hl
  have HSR := hid hr
  have HIH := hid ih
  have S0 := hid S
  have hdz : d.size < 4611686018427387904 := by omega
  have t1 : ((m : Int) - (a : Int) == 1) = false := by simp; omega
  have t2 : ((b : Int) - (m : Int) == 1) = false := by simp; omega
  have w1 : IntKind.i64.wrap ((m : Int) - (a : Int)) = (m : Int) - a := IntWalk.i64_in _ (by omega)
  have w2 : IntKind.i64.wrap ((b : Int) - (m : Int)) = (b : Int) - m := IntWalk.i64_in _ (by omega)
  obtain ⟨mid, hmid⟩ : ∃ q : Nat, q = (a + b) / 2 := ⟨_, rfl⟩
  have zm : ((a : Int) + (b : Int)) / 2 = (mid : Int) := by omega
  have w3 : IntKind.i64.wrap ((mid : Int) + (m : Int)) = (mid : Int) + m := IntWalk.i64_in _ (by omega)
  have w4 : IntKind.i64.wrap ((mid : Int) + (m : Int) - (b : Int)) = (mid : Int) + m - b := IntWalk.i64_in _ (by omega)
  have w5 : IntKind.i64.wrap ((mid : Int) + (m : Int) - 1) = (mid : Int) + m - 1 := IntWalk.i64_in _ (by omega)
  have lm1 : 2 * mid ≤ a + b := by omega
  have lm2 : a + b ≤ 2 * mid + 1 := by omega
  clear hC R hs hl hr S ih hmid
  go_enter Tryz.func113, Tryz.ntmps113
  by_cases hmm : mid < m
  all_goals
    go_wp2_with fail
    -- STOP-ma
    go_loopg [20, 21] (b - a) (fun gg s20 s21 wr => ∃ s r : Nat, s20 = .int .i64 s ∧ s21 = .int .i64 r ∧ a ≤ s ∧ s ≤ r ∧ r ≤ m ∧ r ≤ mid ∧ mid + m ≤ b + s ∧ r - s ≤ gg + 0 ∧ Hid (s = a ∨ mid + m - s = b ∨ ltOf cf d[mid + m - s]! d[s - 1]! = false) ∧ Hid (r = m ∨ mid + m - r = m ∨ ltOf cf d[mid + m - r - 1]! d[r]! = true) ∧ Hid (SWK (QI.cells (Q := Q)) 2 w0 blk off d wr))
    case atStart =>
      first
        | exact ⟨mid + m - b, mid, by congr 1 <;> omega, rfl, by omega, by omega, by omega, by omega, by omega, by omega, hid (.inr (.inl (by omega))), hid (.inr (.inl (by omega))), S0⟩
        | exact ⟨a, m, rfl, rfl, by omega, by omega, by omega, by omega, by omega, by omega, hid (.inl rfl), hid (.inl rfl), S0⟩
    case round =>
      clear S0 t1 t2 w1 w2 w4
      obtain ⟨s, r, rfl, rfl, hsa, hsr, hrm, hrq, hsb, hg, H1, H2, S1h⟩ := hrel
      by_cases hlt : s < r
      · have S1 := S1h.out
        obtain ⟨pp, hpp⟩ : ∃ pp, pp = mid + m - 1 - (s + r) / 2 := ⟨_, rfl⟩
        have hpl : pp < d.size := by omega
        have c0 := fun n' os' => (SWK.at2 (S1.grown n' os') HR.out HS.out (pp) (by omega)).1
        have c1 := fun n' os' => (SWK.at2 (S1.grown n' os') HR.out HS.out (pp) (by omega)).2.1
        have k0 := fun n' os' => (SWK.at2 (S1.grown n' os') HR.out HS.out ((s + r) / 2) (by omega)).1
        have k1 := fun n' os' => (SWK.at2 (S1.grown n' os') HR.out HS.out ((s + r) / 2) (by omega)).2.1
        have hcg := fun n' os' => S1.cmp HC.out HS.out d[pp]! d[(s + r) / 2]! n' os'
        have SG := hid (fun n' os' => S1.grown n' os')
        have HLV := hid (show ltOf cf d[pp]! d[(s + r) / 2]! = decide (cf d[pp]! d[(s + r) / 2]! < 0) from rfl)
        obtain ⟨x, hx⟩ : ∃ x, x = d[pp]! := ⟨_, rfl⟩
        obtain ⟨y, hy⟩ : ∃ y, y = d[(s + r) / 2]! := ⟨_, rfl⟩
        rw [← hx] at c0 c1 hcg
        rw [← hy] at k0 k1 hcg
        have HX := hid hx
        have HY := hid hy
        clear hx hy
        obtain ⟨cv, hcv⟩ : ∃ cv, cv = cf x y := ⟨_, rfl⟩
        rw [← hcv] at hcg
        have HCV := hid hcv
        clear hcv
        obtain ⟨⟨xr, xA, xk, xn⟩, hqx⟩ := x
        obtain ⟨⟨yr, yA, yk, yn⟩, hqy⟩ := y
        simp only [QI.cells, IR.cells] at c0 c1 k0 k1 hcg
        have pa : (0 : Int) ≤ (pp : Int) := by omega
        have ba : (pp : Int) < (d.size : Int) := by omega
        have eb : (((s : Int) + (r : Int)) / 2).toNat = (s + r) / 2 := by omega
        have rb : IntKind.i64.wrap (((s : Int) + (r : Int)) / 2) = ((s : Int) + (r : Int)) / 2 := by rw [IntKind.wrap_i64]; omega
        have pb : (0 : Int) ≤ ((s : Int) + (r : Int)) / 2 := by omega
        have bb : ((s : Int) + (r : Int)) / 2 < (d.size : Int) := by omega
        have ep : Hid (pp = mid + m - (s + r) / 2 - 1) := hid (by omega)
        have ep2 : Hid (pp = mid + m - ((s + r) / 2 + 1)) := hid (by omega)
        have wh : IntKind.i64.wrap ((mid : Int) + (m : Int) - 1 - ((s : Int) + (r : Int)) / 2) = (pp : Int) := by rw [IntWalk.i64_in _ (by omega)]; omega
        clear hpp
        clear S1
        by_cases hlv : cv < 0
        · go_wp2_with fail
          go_quiet_grown (first | (go_at_fn g; refine Calls.grown_of (hcg _ _)))
          clear c0 c1 k0 k1 hcg wh
          go_wp2
          go_roundg ((s + r) / 2 - s)
          case measure => omega
          case rel => exact ⟨s, (s + r) / 2, rfl, by congr 1 <;> omega, by omega, by omega, by omega, by omega, by omega, by omega, H1, hid (.inr (.inr (by rw [← ep.out, HLV.out, ← HX.out, ← HY.out, ← HCV.out]; exact decide_eq_true hlv))), hid (SG.out nq osq)⟩
        · have hlvd : decide (cv < 0) = false := decide_eq_false hlv
          go_wp2_with fail
          go_quiet_grown (first | (go_at_fn g; refine Calls.grown_of (hcg _ _)))
          clear c0 c1 k0 k1 hcg wh
          go_wp2
          go_roundg (r - ((s + r) / 2 + 1))
          case measure => omega
          case rel => exact ⟨(s + r) / 2 + 1, r, by congr 1 <;> omega, rfl, by omega, by omega, by omega, by omega, by omega, by omega, hid (.inr (.inr (by rw [Nat.add_sub_cancel, ← ep2.out, HLV.out, ← HX.out, ← HY.out, ← HCV.out]; exact decide_eq_false (by omega)))), H2, hid (SG.out nq osq)⟩
      · have e : r = s := by omega
        subst e
        obtain ⟨e, he⟩ : ∃ e, e = mid + m - r := ⟨_, rfl⟩
        have ze : (mid : Int) + (m : Int) - (r : Int) = (e : Int) := by omega
        have we : IntKind.i64.wrap ((mid : Int) + (m : Int) - (r : Int)) = (e : Int) := by rw [← ze]; exact IntWalk.i64_in _ (by omega)
        have hre : r + e = mid + m := by omega
        have G1 : Hid (r = a ∨ e = b ∨ ltOf cf d[e]! d[r - 1]! = false) := hid (by rw [he]; exact H1.out)
        have G2 : Hid (r = m ∨ e = m ∨ ltOf cf d[e - 1]! d[r]! = true) := hid (by rw [he]; exact H2.out)
        have HRE := hid hre
        have l1 : m ≤ e := by omega
        have l2 : e ≤ b := by omega
        have l3 : mid ≤ e := by omega
        have l4 : a ≤ mid := by omega
        have l5 : mid ≤ b := by omega
        have HMR := hid (fun d1 (h : Rot d r m e d1) => merge_rot hS hsa hrm l1 l2 hre hb HSL.out HSR.out h G1.out G2.out)
        clear H1 H2 he ze hre G1 G2 hlt hsr hg
        have HEE := hid (show e ≤ b from l2)
        -- STOP-mb
        go_upto_region 39 with fail
        go_cut [185] from 178 to 185 (fun s wx => s = .bool (decide (r < m) && decide (m < e)) ∧ wr = wx)
        case first =>
          by_cases q1 : r < m
          · by_cases q2 : m < e
            all_goals
              go_wp2
              go_meet
              case rel => exact ⟨by simp [q1, q2], rfl⟩
          · go_wp2
            all_goals
              go_meet
              case rel => exact ⟨by simp [q1], rfl⟩
        case rest =>
         obtain ⟨rfl, rfl⟩ := hcut
         go_upto_if 185 with fail
         go_cut [] from 185 to 191 (fun wx => ∃ d1 : Array (QI Q), Hid (Rot d r m e d1) ∧ Hid (PermIn a b d d1) ∧ Hid (SWK (QI.cells (Q := Q)) 2 w0 blk off d1 wx))
         case first =>
           by_cases q1 : r < m
           · by_cases q2 : m < e
             · have hc := rotate g cb blk off cap r m e d0 d w0 wr HR.out HS.out S1h.out q1 q2 (by omega) hdz
               have HC2 := hid hc
               clear hc
               go_wp2_with fail
               -- STOP-mc
               refine HC2.out.mono ?_
               rintro e' w' ⟨rfl, d1, hrot, hperm, S2⟩
               have HA := hid hrot
               have HB := hid hperm
               have HS2 := hid S2
               clear hrot hperm S2
               go_wp2
               go_meet
               case rel => exact ⟨d1, HA, hid (perm_mono hsa HEE.out hb HB.out), HS2⟩
             · go_wp2
               all_goals
                 go_meet
                 case rel => exact ⟨d, hid (rot_none hrm l1 (.inr (by omega))), hid (perm_refl _ _ _), S1h⟩
           · go_wp2
             all_goals
               go_meet
               case rel => exact ⟨d, hid (rot_none hrm l1 (.inl (by omega))), hid (perm_refl _ _ _), S1h⟩
         case rest =>
           obtain ⟨d1, HROT, HP1, HS1⟩ := hcut
           obtain ⟨wx, rfl⟩ : ∃ wx : World, wx = wc := ⟨_, rfl⟩
           obtain ⟨m1, m2, m3, m4, m5⟩ := HMR.out d1 HROT.out
           have hz1 : d1.size = d.size := HROT.out.1
           have M1 := hid m1
           have M2 := hid m2
           have M3 := hid m3
           have M4 := hid m4
           have M5 := hid m5
           have HZ1 := hid hz1
           have lmb : mid < b := by omega
           clear m1 m2 m3 m4 m5 HMR HROT S1h hz1
           go_upto_region 41 with fail
           go_cut [199] from 192 to 199 (fun s wz => s = .bool (decide (a < r) && decide (r < mid)) ∧ wx = wz)
           case first =>
             by_cases q1 : a < r
             · by_cases q2 : r < mid
               all_goals
                 go_wp2
                 go_meet
                 case rel => exact ⟨by simp [q1, q2], rfl⟩
             · go_wp2
               all_goals
                 go_meet
                 case rel => exact ⟨by simp [q1], rfl⟩
           case rest =>
            obtain ⟨rfl, rfl⟩ := hcut
            go_upto_if 199 with fail
            go_cut [] from 199 to 205 (fun wx => ∃ d2 : Array (QI Q), Hid (PermIn a mid d1 d2) ∧ Hid (SortedIn (ltOf cf) a mid d2) ∧ Hid (SWK (QI.cells (Q := Q)) 2 w0 blk off d2 wx))
            case first =>
              by_cases q1 : a < r
              · by_cases q2 : r < mid
                · have hc := HIH.out a r mid d1 wx (by omega) q1 q2 (by rw [HZ1.out]; omega) (HZ1.out.trans HS.out) M1.out M2.out HS1.out
                  rw [HZ1.out] at hc
                  have HC2 := hid hc
                  clear hc
                  go_wp2_with fail
                  refine HC2.out.mono ?_
                  rintro e' w' ⟨rfl, d2, hperm, hsort, S2⟩
                  have HA := hid hperm
                  have HB := hid hsort
                  have HS2 := hid S2
                  clear hperm hsort S2
                  go_wp2
                  go_meet
                  case rel => exact ⟨d2, HA, HB, HS2⟩
                · have e1 : Hid (r = mid) := hid (by omega)
                  go_wp2
                  all_goals
                    go_meet
                    case rel => exact ⟨d1, hid (perm_refl _ _ _), hid (by rw [← e1.out]; exact M1.out), HS1⟩
              · have e1 : Hid (r = a) := hid (by omega)
                go_wp2
                all_goals
                  go_meet
                  case rel => exact ⟨d1, hid (perm_refl _ _ _), hid (by have := M2.out; rwa [e1.out] at this), HS1⟩
            case rest =>
              obtain ⟨d2, HP2, HQ2, HS2⟩ := hcut
              obtain ⟨wy, rfl⟩ : ∃ wx : World, wx = wc := ⟨_, rfl⟩
              have HZ2 : Hid (d2.size = d.size) := hid (HP2.out.1.trans HZ1.out)
              have N3 := hid (sorted_perm M3.out HP2.out (.inr (Nat.le_refl _)))
              have N4 := hid (sorted_perm M4.out HP2.out (.inr l3))
              clear M1 M2 M3 M4 HS1
              by_cases q1 : mid < e
              · by_cases q2 : e < b
                · have hc := HIH.out mid e b d2 wy (by omega) q1 q2 (by rw [HZ2.out]; exact hb) (HZ2.out.trans HS.out) N3.out N4.out HS2.out
                  rw [HZ2.out] at hc
                  have HC2 := hid hc
                  clear hc
                  go_wp2_with fail
                  refine HC2.out.mono ?_
                  rintro e' w' ⟨rfl, d3, hperm, hsort, S2⟩
                  have HA := hid hperm
                  have HB := hid hsort
                  have HS3 := hid S2
                  clear hperm hsort S2
                  go_wp2
                  go_end0
                  obtain ⟨r1, r2⟩ := merge_end hS l4 l5 (by rw [HZ1.out]; exact hb) M5.out HP2.out HQ2.out HA.out HB.out
                  exact ⟨rfl, d3, perm_trans HP1.out r1, r2, HS3.out⟩
                · have e1 : Hid (e = b) := hid (by omega)
                  go_wp2
                  go_end0
                  obtain ⟨r1, r2⟩ := merge_end hS l4 l5 (by rw [HZ1.out]; exact hb) M5.out HP2.out HQ2.out (perm_refl _ _ _) (by have := N3.out; rwa [e1.out] at this)
                  exact ⟨rfl, d2, perm_trans HP1.out r1, r2, HS2.out⟩
              · have e1 : Hid (mid = e) := hid (by omega)
                go_wp2
                go_end0
                obtain ⟨r1, r2⟩ := merge_end hS l4 l5 (by rw [HZ1.out]; exact hb) M5.out HP2.out HQ2.out (perm_refl _ _ _) (by rw [e1.out]; exact N4.out)
                exact ⟨rfl, d2, perm_trans HP1.out r1, r2, HS2.out⟩

/-- slices.symMergeCmpFunc merges. -/
theorem sym_merge (cf : QI Q → QI Q → Int) (g : Nat) (cb : Array Value) (blk off cap : Nat) (d0 : Array (QI Q)) (w0 : World) (eg : ∀ args w, (callFunc g args).run Tryz.prog w = .ok (.enter g args) w) (hC : CmpLays Tryz.prog g cb (QI.cells (Q := Q)) 2 cf blk off d0.size w0)
    (R : RowK (QI.cells (Q := Q)) 2 w0 blk off d0) (hS : SWO (ltOf cf)) (hsz : d0.size < 4611686018427387904) :
    ∀ n (a m b : Nat) (d : Array (QI Q)) (w : World), b - a < n → a < m → m < b → b ≤ d.size → d.size = d0.size → SortedIn (ltOf cf) a m d → SortedIn (ltOf cf) m b d → SWK (QI.cells (Q := Q)) 2 w0 blk off d w → Calls Tryz.prog 113 #[.slice (some ⟨blk, off, none⟩) d.size cap, .int .i64 a, .int .i64 m, .int .i64 b, .func (.func g) #[] cb] w fun e w' => e = .returned (.tuple #[]) ∧ ∃ d', PermIn a b d d' ∧ SortedIn (ltOf cf) a b d' ∧ SWK (QI.cells (Q := Q)) 2 w0 blk off d' w'
  | 0, a, m, b, d, w, h, _, _, _, _, _, _, _ => absurd h (by omega)
  | n + 1, a, m, b, d, w, h, h1, h2, h3, h4, h5, h6, h7 => by
    by_cases c1 : m = a + 1
    · exact sym_left cf g cb blk off cap d0 w0 eg hC R hS hsz a m b d w c1 h2 h3 h4 h6 h7
    · by_cases c2 : b = m + 1
      · exact sym_right cf g cb blk off cap d0 w0 eg hC R hS hsz a m b d w (by omega) c2 h3 h4 h5 h7
      · exact sym_main cf g cb blk off cap d0 w0 eg hC R hS hsz a m b d w (by omega) (by omega) h3 h4 h5 h6 h7
          (fun a' m' b' d' w' hl g1 g2 g3 g4 g5 g6 g7 => sym_merge cf g cb blk off cap d0 w0 eg hC R hS hsz n a' m' b' d' w' (by omega) g1 g2 g3 g4 g5 g6 g7)
end Go.Proofs.YtldlmkfigjicgaaGreatDoor
