/- ZsE, ZsF, ZsG, ZsH, ZgP -/
import Derived.Test.YtmcdaibdpeeefaaCk03
import Derived.Deep.CutBlock
import Derived.Deep.CutRange
import Derived.Handy
import Derived.Deep.RegionHeld3
import Derived.Test.YtmcdaibdpeeefaaCk01
/- zset.Check. -/
namespace Go.Proofs.Ytmcdaibdpeeefaa
set_option linter.unusedVariables false
set_option linter.unusedSimpArgs false
open Go.ChangeShapes Go.WideShapes Go.ChangeAt Go.RowKit

set_option maxHeartbeats 2000000 in
set_option maxRecDepth 100000 in
theorem zcheck_any (M : List IR) (A : Option Addr) (c : Nat) (w : World) (hr : RowI w w.heap.size A M) (hl : M.length ≤ 9223372036854775807) :
    Calls Try.prog 12 #[.slice A M.length c] w fun e w' => e = .returned (.int .i64 (setI (its M))) ∧ Below w.heap.size w w' := by
  have HR := hid hr
  clear hr
  have HE := hid (show setI (its M) = if 400 < (its M).length then 2 else if (List.range (its M).length).any (zbadAt (its M)) = true then 5 else 0 from rfl)
  obtain ⟨E, hE⟩ : ∃ E, E = setI (its M) := ⟨_, rfl⟩
  rw [← hE] at HE ⊢
  rw [its_len] at HE
  clear hE
  by_cases h4 : 400 < M.length
  · have h4' : (400 : Int) < (M.length : Int) := by omega
    have HD : Hid (E = 2) := hid (by rw [HE.out, if_pos h4])
    go_enter Try.func12, Try.ntmps12
    go_wp2
    go_ret
    exact ⟨ret_int (by rw [HD.out]), Below.refl _ _⟩
  · have h4' : (M.length : Int) ≤ 400 := by omega
    have h4n : M.length ≤ 400 := by omega
    replace HE : Hid (E = if (List.range M.length).any (zbadAt (its M)) = true then 5 else 0) := hid (by rw [HE.out, if_neg h4])
    clear h4
    go_enter Try.func12, Try.ntmps12
    go_wp2_with fail
    go_loopw [10] (fun s10 wr => ∃ i : Nat, i ≤ M.length ∧ s10 = .int .i64 i ∧ Hid (∀ j, j < i → zbadAt (its M) j = false) ∧ Hid (Below w.heap.size w wr)) (fun s10 _ => M.length - (intOf s10).toNat)
    case atStart => exact ⟨0, by omega, rfl, hid (fun j h => by omega), hid (Below.refl _ _)⟩
    case round =>
      obtain ⟨i, hi, rfl, HNO, HB⟩ := hrel
      by_cases hlt : i < M.length
      · have HRR := hid (HR.out.step HB.out)
        obtain ⟨b, off, rfl, hb, h0, h1⟩ := HRR.out.1.it hlt
        have hmem := List.getElem_mem hlt
        have hrw := HRR.out.2 _ hmem
        have HBA : Hid (zbadAt (its M) i = ((badB M[i].it || decide (M[i].n = 0)) || (if h : 0 < i then decide (0 ≤ cmpL M[i - 1].row M[i].row) else false))) := hid (by
          cases i with
          | zero => rw [badAt_zero (by rw [its_len]; exact hlt)]; simp [its]
          | succ k => rw [badAt_succ (by rw [its_len]; exact hlt)]; simp [its])
        have hprev : ∀ h : 0 < i, ∃ (y : List Int) (yA : Option Addr) (yk : Nat), wr.cell? ⟨b, off + (i - 1) * 2, none⟩ = some (.slice yA y.length yk) ∧ Row wr wr.heap.size yA (icells' y) ∧ y.length ≤ 9223372036854775807 ∧ y = M[i - 1].row := fun h => by
          obtain ⟨b2, off2, hA2, hb2, g0, g1⟩ := HRR.out.1.it (show i - 1 < M.length by omega)
          injection hA2 with hA2
          injection hA2 with q1 q2
          subst q1 q2
          exact ⟨_, _, _, g0, (HRR.out.2 _ (List.getElem_mem _)).1, (HRR.out.2 _ (List.getElem_mem _)).2, rfl⟩
        obtain ⟨bad, hbad⟩ : ∃ bad, bad = zbadAt (its M) i := ⟨_, rfl⟩
        have HBD := hid hbad
        rw [← hbad] at HBA
        clear hbad hmem
        generalize M[i] = x at *
        obtain ⟨xr, xA, xk, xn⟩ := x
        simp only at h0 h1 hrw
        simp only [IR.it] at HBA
        obtain ⟨hrw1, hrw2⟩ := hrw
        obtain ⟨W, hW⟩ : ∃ W : World, W = wr.alloc (.cells #[.slice xA xr.length xk, .int .i64 xn] 28) := ⟨_, rfl⟩
        have hWB : Below wr.heap.size wr W := by rw [hW]; exact alloc_below (Below.refl _ _) _
        have HWX := hid (show Blk W wr.heap.size #[.slice xA xr.length xk, .int .i64 xn] 28 by rw [hW]; exact Blk.new _ _ _)
        have HROW := hid (fun w1 (hb : Below W.heap.size W w1) => row_any xr xA xk w1 (hrw1.step (Below.step' hWB hb)) hrw2)
        have HFAR := hid (fun w1 => far_any xn w1)
        have HXR := hid hrw1
        have hbr := hb
        have HBW := hid (Below.step' HB.out hWB)
        have HB2 := hid hWB
        have hW2 := hWB.size
        clear hWB
        obtain ⟨rb, hrb⟩ : ∃ q, q = rowB xr := ⟨_, rfl⟩
        obtain ⟨fb, hfb⟩ : ∃ q, q = farB xn := ⟨_, rfl⟩
        rw [← hrb] at HROW
        rw [← hfb] at HFAR
        replace HBA : Hid (bad = (((!rb || fb) || decide (xn = 0)) || (if h : 0 < i then decide (0 ≤ cmpL M[i - 1].row xr) else false))) := hid (by rw [HBA.out, badB, ← hrb, ← hfb])
        clear hrb hfb
        have hb0 : b < W.heap.size := by omega
        have HPRE := hid hprev
        clear hprev
        have HW := hid hW
        go_wp2_with fail
        -- STOP-a
        rw [← hW]
        clear hW h0 h1 hb hrw1
        go_cut [44] from 15 to 44 (fun s wx => s = .bool bad ∧ Hid (Below W.heap.size W wx))
        case first =>
          obtain ⟨cx, fx, sx, nx⟩ := HWX.out.all
          cases rb
          · go_wp2
            refine region_ext (by kernel_rfl) (by kernel_rfl) (fun hext => ?_)
            repeat (any_goals ((with_reducible refine wpQuiet_step (fun K hK => ?_)); go_simp; first | (with_reducible refine hK _ ?_; clear hK K) | ((with_reducible apply Exists.intro); (with_reducible refine ⟨fun _ => ?_, hK _ ?_⟩); ((first | (go_at_call 33; exact ext_call _ (Nat.le_refl _) (HROW.out _ (Ext.below _))) | (go_at_call 34; exact ext_call_same _ (HFAR.out _)) | (go_at_call 38; exact ext_call_same _ (HORD.out _ (Ext.below _))))); clear hK K) | ((with_reducible refine (if_neg ?_).mpr (hK _ ?_)); (decide); clear hK K) | (split <;> (with_reducible refine hK _ ?_; clear hK K))))
            all_goals ((with_reducible refine wpQuiet_nil ?_); clear hext; intro w1 hx1; have hb1 := ext_below hx1; clear hx1)
            go_wp2
            all_goals
              go_meet
              case rel => exact ⟨by rw [HBA.out]; rfl, hid hb1⟩
          · by_cases hn : xn = 0
            · have t1 : (xn == 0) = true := by simp [hn]
              have HN := hid hn
              clear hn
              go_wp2
              refine region_ext (by kernel_rfl) (by kernel_rfl) (fun hext => ?_)
              repeat (any_goals ((with_reducible refine wpQuiet_step (fun K hK => ?_)); go_simp; first | (with_reducible refine hK _ ?_; clear hK K) | ((with_reducible apply Exists.intro); (with_reducible refine ⟨fun _ => ?_, hK _ ?_⟩); ((first | (go_at_call 33; exact ext_call _ (Nat.le_refl _) (HROW.out _ (Ext.below _))) | (go_at_call 34; exact ext_call_same _ (HFAR.out _)) | (go_at_call 38; exact ext_call_same _ (HORD.out _ (Ext.below _))))); clear hK K) | ((with_reducible refine (if_neg ?_).mpr (hK _ ?_)); (decide); clear hK K) | (split <;> (with_reducible refine hK _ ?_; clear hK K))))
              all_goals ((with_reducible refine wpQuiet_nil ?_); clear hext; intro w1 hx1; have hb1 := ext_below hx1; clear hx1)
              go_wp2
              all_goals
                go_meet
                case rel => exact ⟨by rw [HBA.out, decide_eq_true HN.out]; simp, hid hb1⟩
            · have t1 : (xn == 0) = false := by simp [hn]
              have HN := hid hn
              clear hn
              cases fb
              · by_cases hi0 : 0 < i
                · obtain ⟨y, yA, yk, g0, g1, g2, g3⟩ := HPRE.out hi0
                  have g0' : W.cell? ⟨b, off + (i - 1) * 2, none⟩ = some (.slice yA y.length yk) := by rw [(bcell HB2.out).1 _ _ (by omega)]; exact g0
                  have HORD := hid (fun w1 (hb : Below W.heap.size W w1) => orderL_any y xr yA xA yk xk w1 (g1.step (Below.step' HB2.out hb)) (HXR.out.step (Below.step' HB2.out hb)) g2 hrw2)
                  obtain ⟨cv, hcv⟩ : ∃ q, q = cmpL y xr := ⟨_, rfl⟩
                  rw [← hcv] at HORD
                  have HBB : Hid (bad = decide (0 ≤ cv)) := hid (by rw [HBA.out, dif_pos hi0, ← g3, ← hcv, decide_eq_false HN.out]; simp)
                  have hi1 : (0 : Int) < (i : Int) := by omega
                  have hw1 : IntKind.i64.wrap ((i : Int) - 1) = (i : Int) - 1 := IntWalk.i64_in _ (by omega)
                  have hi2 : ((i : Int) - 1).toNat = i - 1 := by omega
                  have hi3 : (0 : Int) ≤ (i : Int) - 1 := by omega
                  have hi4 : (1 : Int) ≤ (i : Int) := by omega
                  have hi5 : (i : Int) - 1 < (M.length : Int) := by omega
                  clear hcv g0 g1 g3
                  by_cases hc : 0 ≤ cv
                  · have HC := hid hc
                    have hcd : decide (0 ≤ cv) = true := decide_eq_true hc
                    go_wp2
                    refine region_ext (by kernel_rfl) (by kernel_rfl) (fun hext => ?_)
                    repeat (any_goals ((with_reducible refine wpQuiet_step (fun K hK => ?_)); go_simp; first | (with_reducible refine hK _ ?_; clear hK K) | ((with_reducible apply Exists.intro); (with_reducible refine ⟨fun _ => ?_, hK _ ?_⟩); ((first | (go_at_call 33; exact ext_call _ (Nat.le_refl _) (HROW.out _ (Ext.below _))) | (go_at_call 34; exact ext_call_same _ (HFAR.out _)) | (go_at_call 38; exact ext_call_same _ (HORD.out _ (Ext.below _))))); clear hK K) | ((with_reducible refine (if_neg ?_).mpr (hK _ ?_)); (decide); clear hK K) | (split <;> (with_reducible refine hK _ ?_; clear hK K))))
                    all_goals ((with_reducible refine wpQuiet_nil ?_); clear hext; intro w1 hx1; have hb1 := ext_below hx1; clear hx1)
                    go_wp2
                    all_goals
                      go_meet
                      case rel => exact ⟨by rw [HBB.out, decide_eq_true HC.out], hid hb1⟩
                  · have HC := hid hc
                    have hcd : decide (0 ≤ cv) = false := decide_eq_false hc
                    go_wp2
                    refine region_ext (by kernel_rfl) (by kernel_rfl) (fun hext => ?_)
                    repeat (any_goals ((with_reducible refine wpQuiet_step (fun K hK => ?_)); go_simp; first | (with_reducible refine hK _ ?_; clear hK K) | ((with_reducible apply Exists.intro); (with_reducible refine ⟨fun _ => ?_, hK _ ?_⟩); ((first | (go_at_call 33; exact ext_call _ (Nat.le_refl _) (HROW.out _ (Ext.below _))) | (go_at_call 34; exact ext_call_same _ (HFAR.out _)) | (go_at_call 38; exact ext_call_same _ (HORD.out _ (Ext.below _))))); clear hK K) | ((with_reducible refine (if_neg ?_).mpr (hK _ ?_)); (decide); clear hK K) | (split <;> (with_reducible refine hK _ ?_; clear hK K))))
                    all_goals ((with_reducible refine wpQuiet_nil ?_); clear hext; intro w1 hx1; have hb1 := ext_below hx1; clear hx1)
                    go_wp2
                    all_goals
                      go_meet
                      case rel => exact ⟨by rw [HBB.out, decide_eq_false (by have := HC.out; omega)], hid hb1⟩
                · have HBB : Hid (bad = false) := hid (by rw [HBA.out, dif_neg hi0, decide_eq_false HN.out]; simp)
                  have hi1 : decide ((0 : Int) < (i : Int)) = false := decide_eq_false (by omega)
                  have hi2 : ¬ (0 : Int) < (i : Int) := by omega
                  go_wp2
                  refine region_ext (by kernel_rfl) (by kernel_rfl) (fun hext => ?_)
                  repeat (any_goals ((with_reducible refine wpQuiet_step (fun K hK => ?_)); go_simp; first | (with_reducible refine hK _ ?_; clear hK K) | ((with_reducible apply Exists.intro); (with_reducible refine ⟨fun _ => ?_, hK _ ?_⟩); ((first | (go_at_call 33; exact ext_call _ (Nat.le_refl _) (HROW.out _ (Ext.below _))) | (go_at_call 34; exact ext_call_same _ (HFAR.out _)) | (go_at_call 38; exact ext_call_same _ (HORD.out _ (Ext.below _))))); clear hK K) | ((with_reducible refine (if_neg ?_).mpr (hK _ ?_)); (decide); clear hK K) | (split <;> (with_reducible refine hK _ ?_; clear hK K))))
                  all_goals ((with_reducible refine wpQuiet_nil ?_); clear hext; intro w1 hx1; have hb1 := ext_below hx1; clear hx1)
                  go_wp2
                  all_goals
                    go_meet
                    case rel => exact ⟨by rw [HBB.out], hid hb1⟩
              · go_wp2
                refine region_ext (by kernel_rfl) (by kernel_rfl) (fun hext => ?_)
                repeat (any_goals ((with_reducible refine wpQuiet_step (fun K hK => ?_)); go_simp; first | (with_reducible refine hK _ ?_; clear hK K) | ((with_reducible apply Exists.intro); (with_reducible refine ⟨fun _ => ?_, hK _ ?_⟩); ((first | (go_at_call 33; exact ext_call _ (Nat.le_refl _) (HROW.out _ (Ext.below _))) | (go_at_call 34; exact ext_call_same _ (HFAR.out _)) | (go_at_call 38; exact ext_call_same _ (HORD.out _ (Ext.below _))))); clear hK K) | ((with_reducible refine (if_neg ?_).mpr (hK _ ?_)); (decide); clear hK K) | (split <;> (with_reducible refine hK _ ?_; clear hK K))))
                all_goals ((with_reducible refine wpQuiet_nil ?_); clear hext; intro w1 hx1; have hb1 := ext_below hx1; clear hx1)
                go_wp2
                all_goals
                  go_meet
                  case rel => exact ⟨by rw [HBA.out]; simp, hid hb1⟩
        case rest =>
          obtain ⟨rfl, HB4⟩ := hcut
          have HB5 := hid (Below.step' HBW.out HB4.out)
          cases bad
          · go_wp2_with fail
            go_roundw
            case rel =>
              refine ⟨i + 1, by omega, by go_num, hid (fun j hj => ?_), HB5⟩
              by_cases e : j = i
              · rw [e]; exact HBD.out.symm
              · exact HNO.out j (by omega)
            case measure => simp [intOf]; omega
          · have HD : Hid (E = 5) := hid (by rw [HE.out, if_pos (List.any_eq_true.2 ⟨i, List.mem_range.2 hlt, HBD.out.symm⟩)])
            go_wp2
            go_ret
            exact ⟨ret_int (by rw [HD.out]), HB5.out⟩
      · have HD : Hid (E = 0) := hid (by
          rw [HE.out, if_neg]
          intro h
          obtain ⟨j, hj, e⟩ := List.any_eq_true.1 h
          rw [HNO.out j (by have := List.mem_range.1 hj; omega)] at e
          cases e)
        go_wp2
        go_ret
        exact ⟨ret_int (by rw [HD.out]), HB.out⟩
end Go.Proofs.Ytmcdaibdpeeefaa
/- zset.Norm, Add; what a right set is. -/
namespace Go.Proofs.Ytmcdaibdpeeefaa
set_option linter.unusedVariables false
set_option linter.unusedSimpArgs false
open Go.ChangeShapes Go.WideShapes Go.ChangeAt Go.RowKit


/-- Sum, Done: over lists that lie where they lay. -/
theorem lens_of {M : List IR} (h : ∀ x ∈ its M, badB x = false) : ∀ x ∈ M, x.row.length ≤ 1048576 := fun x hx => by
  have := badB_false (h x.it (List.mem_map.2 ⟨x, hx, rfl⟩))
  simp only [IR.it] at this
  omega

set_option maxHeartbeats 1000000 in
set_option maxRecDepth 100000 in
theorem norm_any (M : List IR) (A : Option Addr) (c : Nat) (w : World) (hr : RowI w w.heap.size A M) (hl : M.length ≤ 9223372036854775807) :
    Calls Try.prog 9 #[.slice A M.length c] w (ItsErr (normX (its M)) (normE (its M)) w) := by
  have HC := hid (containsIt_any 32 #[] (fun x => badB x.it) M A c w hr.1 hl enters_norm1 (fun w' hb x hx => norm1_any x w' ((hr.2.step hb) x hx).1 (hr.2 x hx).2))
  have HR := hid hr
  clear hr
  have HE := hid (show normE (its M) = if 400 < (its M).length then 2 else if (its M).any badB = true then 5 else doneE (sumL (its M)) from rfl)
  have HX := hid (show normX (its M) = if normE (its M) = 0 then sumL (its M) else [] from rfl)
  have HNB : Hid ((its M).any badB = false → ∀ x ∈ M, x.row.length ≤ 1048576) := hid (fun h => lens_of fun x hx => by
    cases hq : badB x
    · rfl
    · rw [List.any_eq_true.2 ⟨x, hx, hq⟩] at h; cases h)
  rw [any_its] at HC
  obtain ⟨E, hE⟩ : ∃ E, E = normE (its M) := ⟨_, rfl⟩
  rw [← hE] at HE HX ⊢
  clear hE
  obtain ⟨X, hX⟩ : ∃ X, X = normX (its M) := ⟨_, rfl⟩
  rw [← hX] at HX ⊢
  clear hX
  rw [its_len] at HE
  obtain ⟨B, hB⟩ : ∃ B, B = (its M).any badB := ⟨_, rfl⟩
  rw [← hB] at HC HE HNB
  clear hB
  by_cases h4 : 400 < M.length
  · have h4' : (400 : Int) < (M.length : Int) := by omega
    have HD : Hid (E = 2) := hid (by rw [HE.out, if_pos h4])
    go_enter Try.func9, Try.ntmps9
    go_wp2
    go_ret2
    exact itsErr_nil' (by rw [HX.out, HD.out, if_neg (by decide)]) HD.out (Below.refl _ _)
  · have h4' : (M.length : Int) ≤ 400 := by omega
    have h4n : M.length ≤ 400 := by omega
    cases B
    · have HD : Hid (E = doneE (sumL (its M))) := hid (by rw [HE.out, if_neg h4, if_neg (by simp)])
      have hlen := HNB.out rfl
      have HLN := hid hlen
      clear h4 hlen HNB
      go_enter Try.func9, Try.ntmps9
      go_wp2_with fail
      refine HC.out.mono ?_
      rintro e w1 ⟨rfl, hb1⟩
      have HB1 := hid hb1
      have HR1 := hid (HR.out.step hb1)
      clear hb1 HC
      have HSM : Hid (∀ w2, Below w1.heap.size w1 w2 → ∀ A2, Row w2 w2.heap.size A2 [.slice A M.length c] → Calls Try.prog 36 #[.slice A2 1 1] w2 (ItsPost (sumL (its M)) w2)) := hid (fun w2 hb A2 h => by
        have := sum_any [⟨M, A, c⟩] A2 1 w2 (by simpa using h) (fun x hx => by rw [List.mem_singleton.1 hx]; exact HR1.out.step hb) (by simp; omega) (by simp) (by simpa using HLN.out)
        simpa using this)
      go_wp2_with fail
      -- STOP-a
      refine (HSM.out _ (alloc_below (Below.refl _ _) _) _ (Row.new' _ _ _ rfl rfl (by simp))).mono ?_
      rintro e w2 ⟨A2, k2, M2, rfl, hits, hown, hnew, hb2⟩
      have hB2 : Below w1.heap.size w1 w2 := (by refine Below.step' ?_ hb2; (repeat' (first | (with_reducible exact Below.refl _ _) | (with_reducible assumption) | (with_reducible refine below_drewN ?_ _) | (with_reducible refine Below.drew ?_) | (with_reducible refine Below.alloc ?_ ?_ _) | (with_reducible refine Below.setCell ?_ ?_ _) | (refine Below.trans ?_ (Below.mono (by assumption) ?_)) | go_size)))
      have HIT := hid hits
      have HOW := hid (own_baseS hown (show w.heap.size ≤ _ by have := HB1.out.size; simp; omega))
      have HNW : Hid (RowsNew w2 w.heap.size (.slice A2 M2.length k2) M2) := hid (fun x hx => by
        obtain ⟨q1, q2, q3, q4⟩ := hnew x hx
        exact ⟨q1, newAt_le q2 (by have := HB1.out.size; simp; omega), q3, q4⟩)
      have HB2 := hid (Below.step' HB1.out hB2)
      have hlM : M2.length ≤ 9223372036854775807 := by
        have := sumL_len (its M)
        rw [← hits, its_len, its_len] at this
        omega
      have hdn := done_any M2 A2 k2 w2 (Row.of_ownS hown) hnew.rows hlM
      rw [hits, ← HD.out] at hdn
      have HDN := hid hdn
      clear hits hown hnew hb2 hB2 hdn hlM HSM
      go_wp2_with fail
      refine HDN.out.mono ?_
      rintro e w3 ⟨rfl, hb3⟩
      have HB3 := hid hb3
      clear hb3 HDN
      by_cases hz : E = 0
      · have HZ := hid hz
        rw [if_pos hz]
        clear hz
        go_wp2
        go_ret2
        exact ⟨A2, k2, M2, rfl, by rw [HIT.out, HX.out, if_pos HZ.out], own_laterS HOW.out HB3.out, HNW.out.step HB3.out, Below.step' HB2.out HB3.out⟩
      · have HZ := hid hz
        rw [if_neg hz]
        clear hz
        go_wp2
        go_ret2
        exact itsErr_nil' (by rw [HX.out, if_neg HZ.out]) rfl (Below.step' HB2.out HB3.out)
    · have HD : Hid (E = 5) := hid (by rw [HE.out, if_neg h4, if_pos rfl])
      go_enter Try.func9, Try.ntmps9
      go_wp2_with (go_at_call 31; refine HC.out.mono ?_; rintro e w' ⟨rfl, hb⟩)
      go_ret2
      exact itsErr_nil' (by rw [HX.out, HD.out, if_neg (by decide)]) HD.out hb
end Go.Proofs.Ytmcdaibdpeeefaa
/- zset.Add, Neg. -/
namespace Go.Proofs.Ytmcdaibdpeeefaa
set_option linter.unusedVariables false
set_option linter.unusedSimpArgs false
open Go.ChangeShapes Go.WideShapes Go.ChangeAt Go.RowKit

theorem lens_set {M : List IR} (h : setI (its M) = 0) : ∀ x ∈ M, x.row.length ≤ 1048576 := lens_of (setI_zero.1 h).2.1
theorem len_set {M : List IR} (h : setI (its M) = 0) : M.length ≤ 400 := by have := (setI_zero.1 h).1; rwa [its_len] at this

set_option maxHeartbeats 2000000 in
set_option maxRecDepth 100000 in
theorem add_any (M1 M2 : List IR) (A1 A2 : Option Addr) (c1 c2 : Nat) (w : World) (hr1 : RowI w w.heap.size A1 M1) (hl1 : M1.length ≤ 9223372036854775807) (hr2 : RowI w w.heap.size A2 M2) (hl2 : M2.length ≤ 9223372036854775807) :
    Calls Try.prog 11 #[.slice A1 M1.length c1, .slice A2 M2.length c2] w (ItsErr (addX (its M1) (its M2)) (addE (its M1) (its M2)) w) := by
  have HK1 := hid (fun w1 (hb : Below w.heap.size w w1) => zcheck_any M1 A1 c1 w1 (hr1.step hb) hl1)
  have HK2 := hid (fun w1 (hb : Below w.heap.size w w1) => zcheck_any M2 A2 c2 w1 (hr2.step hb) hl2)
  have HR1 := hid hr1
  have HR2 := hid hr2
  clear hr1 hr2
  have HE := hid (show addE (its M1) (its M2) = if setI (its M1) ≠ 0 then setI (its M1) else if setI (its M2) ≠ 0 then setI (its M2) else doneE (sumL (its M1 ++ its M2)) from rfl)
  have HX := hid (show addX (its M1) (its M2) = if addE (its M1) (its M2) = 0 then sumL (its M1 ++ its M2) else [] from rfl)
  have HL1 : Hid (setI (its M1) = 0 → M1.length ≤ 400 ∧ ∀ x ∈ M1, x.row.length ≤ 1048576) := hid fun h => ⟨len_set h, lens_set h⟩
  have HL2 : Hid (setI (its M2) = 0 → M2.length ≤ 400 ∧ ∀ x ∈ M2, x.row.length ≤ 1048576) := hid fun h => ⟨len_set h, lens_set h⟩
  obtain ⟨E, hE⟩ : ∃ E, E = addE (its M1) (its M2) := ⟨_, rfl⟩
  rw [← hE] at HE HX ⊢
  clear hE
  obtain ⟨X, hX⟩ : ∃ X, X = addX (its M1) (its M2) := ⟨_, rfl⟩
  rw [← hX] at HX ⊢
  clear hX
  obtain ⟨E1, hE1⟩ : ∃ q, q = setI (its M1) := ⟨_, rfl⟩
  obtain ⟨E2, hE2⟩ : ∃ q, q = setI (its M2) := ⟨_, rfl⟩
  rw [← hE1] at HE HK1 HL1
  rw [← hE2] at HE HK2 HL2
  clear hE1 hE2
  go_enter Try.func11, Try.ntmps11
  go_wp2_with fail
  obtain ⟨W, hW⟩ : ∃ W : World, W = w.alloc (.cells #[.slice A1 M1.length c1, .slice A2 M2.length c2] 22) := ⟨_, rfl⟩
  have HXA := hid (show Blk W w.heap.size #[.slice A1 M1.length c1, .slice A2 M2.length c2] 22 by rw [hW]; exact Blk.new _ _ _)
  have HBW := hid (show Below w.heap.size w W by rw [hW]; exact alloc_below (Below.refl _ _) _)
  -- STOP-a
  rw [← hW]
  clear hW
  obtain ⟨cHXA, fHXA, sHXA, nHXA⟩ := HXA.out.all
  try simp only [cbox] at cHXA
  refine wp_loop_rounds 3 ?_
  rw [rounds_succ]
  by_cases q1 : E1 = 0
  rotate_left
  · have t1 : (E1 != 0) = true := by simpa using q1
    have HD : Hid (E = E1) := hid (by rw [HE.out, if_pos q1])
    have HQ := hid q1
    clear q1
    go_wp2_with (go_at_call 12; refine (HK1.out _ HBW.out).mono ?_; rintro e w1 ⟨rfl, hb1⟩)
    go_ret2
    exact itsErr_nil' (by rw [HX.out, HD.out, if_neg HQ.out]) HD.out (Below.step' HBW.out hb1)
  · subst q1
    go_wp2_with fail
    refine (HK1.out _ HBW.out).mono ?_
    rintro e w1 ⟨rfl, hb1⟩
    clear cHXA fHXA sHXA nHXA
    replace HXA := hid (HXA.out.step hb1)
    replace HBW := hid (Below.step' HBW.out hb1)
    clear hb1
    obtain ⟨cHXA, fHXA, sHXA, nHXA⟩ := HXA.out.all
    try simp only [cbox] at cHXA
    go_wp2_with fail
    rw [rounds_succ]
    by_cases q2 : E2 = 0
    rotate_left
    · have t1 : (E2 != 0) = true := by simpa using q2
      have HD : Hid (E = E2) := hid (by rw [HE.out, if_neg (by simp), if_pos q2])
      have HQ := hid q2
      clear q2
      go_wp2_with (go_at_call 12; refine (HK2.out _ HBW.out).mono ?_; rintro e w2 ⟨rfl, hb2⟩)
      go_ret2
      exact itsErr_nil' (by rw [HX.out, HD.out, if_neg HQ.out]) HD.out (Below.step' HBW.out hb2)
    · subst q2
      have HD : Hid (E = doneE (sumL (its M1 ++ its M2))) := hid (by rw [HE.out, if_neg (by simp), if_neg (by simp)])
      obtain ⟨l1, n1⟩ := HL1.out (by first | rfl | trivial)
      obtain ⟨l2, n2⟩ := HL2.out (by first | rfl | trivial)
      have HN1 := hid n1
      have HN2 := hid n2
      clear n1 n2 HL1 HL2
      go_wp2_with fail
      refine (HK2.out _ HBW.out).mono ?_
      rintro e w2 ⟨rfl, hb2⟩
      clear cHXA fHXA sHXA nHXA
      replace HBW := hid (Below.step' HBW.out hb2)
      clear hb2 HXA
      have HSM : Hid (∀ w3, Below w2.heap.size w2 w3 → ∀ A3, Row w3 w3.heap.size A3 [.slice A1 M1.length c1, .slice A2 M2.length c2] → Calls Try.prog 36 #[.slice A3 2 2] w3 (ItsPost (sumL (its M1 ++ its M2)) w3)) := hid (fun w3 hb A3 h => by
        have := sum_any [⟨M1, A1, c1⟩, ⟨M2, A2, c2⟩] A3 2 w3 (by simpa using h) (fun x hx => by
          simp only [List.mem_cons, List.not_mem_nil, or_false] at hx
          rcases hx with rfl | rfl
          · exact HR1.out.step (Below.step' HBW.out hb)
          · exact HR2.out.step (Below.step' HBW.out hb)) (by simp; omega) (by simp) (fun x hx => by
          simp only [lrs, List.flatMap_cons, List.flatMap_nil, List.append_nil, List.mem_append] at hx
          rcases hx with hx | hx
          · exact HN1.out x hx
          · exact HN2.out x hx)
        simpa using this)
      go_wp2_with fail
      rw [rounds_succ]
      go_wp2_with fail
      -- STOP-b
      refine (HSM.out _ (alloc_below (Below.refl _ _) _) _ (Row.new' _ _ _ rfl rfl (by simp))).mono ?_
      rintro e w3 ⟨A3, k3, M3, rfl, hits, hown, hnew, hb3⟩
      have hB3 : Below w2.heap.size w2 w3 := (by refine Below.step' ?_ hb3; (repeat' (first | (with_reducible exact Below.refl _ _) | (with_reducible assumption) | (with_reducible refine below_drewN ?_ _) | (with_reducible refine Below.drew ?_) | (with_reducible refine Below.alloc ?_ ?_ _) | (with_reducible refine Below.setCell ?_ ?_ _) | (refine Below.trans ?_ (Below.mono (by assumption) ?_)) | go_size)))
      have HIT := hid hits
      have HOW := hid (own_baseS hown (show w.heap.size ≤ _ by have := HBW.out.size; simp; omega))
      have HNW : Hid (RowsNew w3 w.heap.size (.slice A3 M3.length k3) M3) := hid (fun x hx => by
        obtain ⟨q1, q2, q3, q4⟩ := hnew x hx
        exact ⟨q1, newAt_le q2 (by have := HBW.out.size; simp; omega), q3, q4⟩)
      have HB2 := hid (Below.step' HBW.out hB3)
      have hlM : M3.length ≤ 9223372036854775807 := by
        have := sumL_len (its M1 ++ its M2)
        rw [← hits, its_len, List.length_append, its_len, its_len] at this
        omega
      have hdn := done_any M3 A3 k3 w3 (Row.of_ownS hown) hnew.rows hlM
      rw [hits, ← HD.out] at hdn
      have HDN := hid hdn
      clear hits hown hnew hb3 hB3 hdn hlM HSM
      go_wp2_with fail
      refine HDN.out.mono ?_
      rintro e w4 ⟨rfl, hb4⟩
      have HB4 := hid hb4
      clear hb4 HDN
      by_cases hz : E = 0
      · have HZ := hid hz
        rw [if_pos hz]
        clear hz
        go_wp2
        go_ret2
        exact ⟨A3, k3, M3, rfl, by rw [HIT.out, HX.out, if_pos HZ.out], own_laterS HOW.out HB4.out, HNW.out.step HB4.out, Below.step' HB2.out HB4.out⟩
      · have HZ := hid hz
        rw [if_neg hz]
        clear hz
        go_wp2
        go_ret2
        exact itsErr_nil' (by rw [HX.out, if_neg HZ.out]) rfl (Below.step' HB2.out HB4.out)

theorem keepA {B b : Nat} {W w : World} {o : Obj} (hb : b < w.heap.size) (hB : B ≤ w.heap.size) (h : ∀ o, w.cell? ⟨b, o, none⟩ = W.cell? ⟨b, o, none⟩) (h2 : Below B W w) : (∀ x, (w.alloc o).cell? ⟨b, x, none⟩ = W.cell? ⟨b, x, none⟩) ∧ Below B W (w.alloc o) :=
  ⟨fun x => ((bcell ((Below.refl w.heap.size w).alloc (Nat.le_refl _) o)).1 b x hb).trans (h x), h2.alloc hB o⟩
theorem keepG {w w' : World} {r : Option Nat} (hg : w.grownBy w' r) {b : Nat} (hb : b < w.heap.size) (hr : some b = r → False) (o : Nat) : w'.cell? ⟨b, o, none⟩ = w.cell? ⟨b, o, none⟩ :=
  World.cell?_of_block (w := w) (hg.block b hb hr)

set_option maxHeartbeats 2000000 in
set_option maxRecDepth 100000 in
theorem neg_any (M : List IR) (A : Option Addr) (c : Nat) (w : World) (hr : RowI w w.heap.size A M) (hl : M.length ≤ 9223372036854775807) :
    Calls Try.prog 10 #[.slice A M.length c] w (ItsErr (negX (its M)) (setI (its M)) w) := by
  have HK := hid (zcheck_any M A c w hr hl)
  have HR := hid hr
  clear hr
  have HX := hid (show negX (its M) = if setI (its M) = 0 then negL (its M) else [] from rfl)
  have HL : Hid (setI (its M) = 0 → M.length ≤ 400 ∧ (∀ x ∈ M, x.row.length ≤ 8 ∧ -1048576 ≤ x.n ∧ x.n ≤ 1048576)) := hid fun h => ⟨len_set h, fun x hx => badB_false ((setI_zero.1 h).2.1 x.it (List.mem_map.2 ⟨x, hx, rfl⟩))⟩
  obtain ⟨E, hE⟩ : ∃ E, E = setI (its M) := ⟨_, rfl⟩
  rw [← hE] at HX HK HL ⊢
  clear hE
  obtain ⟨X, hX⟩ : ∃ X, X = negX (its M) := ⟨_, rfl⟩
  rw [← hX] at HX ⊢
  clear hX
  by_cases q1 : E = 0
  rotate_left
  · have t1 : (E != 0) = true := by simpa using q1
    have HQ := hid q1
    clear q1
    go_enter Try.func10, Try.ntmps10
    go_wp2_with (go_at_call 12; refine HK.out.mono ?_; rintro e w1 ⟨rfl, hb1⟩)
    go_ret2
    exact itsErr_nil' (by rw [HX.out, if_neg HQ.out]) rfl hb1
  · subst q1
    obtain ⟨l1, n1⟩ := HL.out (by first | rfl | trivial)
    have HN := hid n1
    replace HX : Hid (X = negL (its M)) := hid (by rw [HX.out, if_pos rfl])
    clear n1 HL
    go_enter Try.func10, Try.ntmps10
    go_wp2_with fail
    refine HK.out.mono ?_
    rintro e w1 ⟨rfl, hb1⟩
    have HB1 := hid hb1
    have HR1 := hid (HR.out.step hb1)
    have hs1 := hb1.size
    clear hb1 HK
    go_wp2_with fail
    go_loopw [5, 15] (fun s5 s15 wr => ∃ (i : Nat) (S : List IR), i ≤ M.length ∧ s15 = .int .i64 i ∧ S.length = i ∧ Hid (its S = negL (its (M.take i))) ∧ Hid (wr.ownsRow w1.heap.size 28 2 s5 S.length (rcells S)) ∧ Hid (RowsNew wr w1.heap.size s5 S) ∧ Hid (Below w1.heap.size w1 wr)) (fun _ s15 _ => M.length - (intOf s15).toNat)
    case atStart => exact ⟨0, [], by omega, rfl, rfl, hid (by simp [its, negL]), hid (World.ownsRow_nil _ _ _ _), hid (RowsNew.nil _ _ _), hid (Below.refl _ _)⟩
    case round =>
      obtain ⟨i, S, hi, rfl, hSi, HIS, HOWN, HNEW, HB⟩ := hrel
      obtain ⟨A6, c6, rfl⟩ := own_formS HOWN.out
      have HSI := hid hSi
      by_cases hlt : i < M.length
      · have HRR := hid (HR1.out.step HB.out)
        obtain ⟨b, off, rfl, hb, h0, h1⟩ := HRR.out.1.it hlt
        have hmem := List.getElem_mem hlt
        obtain ⟨hx1, hx2, hx3⟩ := HN.out _ hmem
        have hrw := (HRR.out.2 _ hmem).1
        have HST := hid (show its (M.take (i + 1)) = its (M.take i) ++ [M[i].it] by rw [List.take_succ_eq_append_getElem hlt, its, List.map_append]; rfl)
        clear hmem
        generalize M[i] = x at *
        obtain ⟨xr, xA, xk, xn⟩ := x
        simp only at h0 h1 hx1 hx2 hx3 hrw
        obtain ⟨W, hW⟩ : ∃ W : World, W = wr.alloc (.cells #[.slice xA xr.length xk, .int .i64 xn] 28) := ⟨_, rfl⟩
        have hWB : Below wr.heap.size wr W := by rw [hW]; exact alloc_below (Below.refl _ _) _
        have HWX := hid (show Blk W wr.heap.size #[.slice xA xr.length xk, .int .i64 xn] 28 by rw [hW]; exact Blk.new _ _ _)
        have HCL := hid (fun w2 (hb : Below W.heap.size W w2) => cloneI_any xr xA xk w2 (hrw.step (Below.step' hWB hb)) (by omega))
        have HOW2 := hid (own_laterS HOWN.out hWB)
        have HNW2 := hid (HNEW.out.step hWB)
        have HB2 := hid (Below.step' HB.out hWB)
        have hsW := hWB.size
        have hlS : S.length ≤ 400 := by omega
        have hsB := HB.out.size
        have wn : IntKind.i64.wrap (-xn) = -xn := IntWalk.i64_in _ (by omega)
        clear hWB hrw
        have HWW := hid hW
        go_wp2_with fail
        rw [← hW]
        clear hW h0 h1 hb hSi
        -- STOP-n
        obtain ⟨cx, fx, sx, nx⟩ := HWX.out.all
        have hmx : S.length + 1 ≤ maxLen := by simp only [maxLen]; omega
        have hby : (S.length + 1) * 32 ≤ 140737488355328 := by omega
        go_upto_region 8 with fail
        have hbx : wr.heap.size < W.heap.size := HWX.out.lt
        have hw1W : w1.heap.size ≤ W.heap.size := by omega
        go_region_held3 (fun w' => (∀ o, w'.cell? ⟨wr.heap.size, o, none⟩ = W.cell? ⟨wr.heap.size, o, none⟩) ∧ Below w1.heap.size W w')
          ((go_split_ands; first | (with_reducible exact ⟨fun _ => rfl, (Below.refl _ _).drew⟩) | (with_reducible exact ⟨y5, z5⟩) | (with_reducible exact keepA hbx5 hs15 y5 z5) | (with_reducible exact ⟨y6, z6⟩)))
          (first
            | (go_split_ands; go_at_call 37; (with_reducible refine (HCL.out _ (Below.refl _ _).drew).mono ?_); rintro e w5 ⟨A5, c5, rfl, hrow5, hnew5, hin5, hb5⟩; have hB5 : Below W.heap.size W w5 := Below.step' (Below.refl _ _).drew hb5; have hs5 := hB5.size; have how5 := own_laterS HOW2.out hB5; have hnw5 := HNW2.out.step hB5; have y5 := fun o => (bcell hB5).1 wr.heap.size o hbx; have z5 : Below w1.heap.size W w5 := hB5.mono hw1W; have hbx5 : wr.heap.size < w5.heap.size := Nat.lt_of_lt_of_le hbx hs5; have hs15 : w1.heap.size ≤ w5.heap.size := Nat.le_trans hw1W hs5)
            | (go_split_ands; refine step_append_row elem_item (by rfl) _ _ (by rfl) w1.heap.size (.slice A6 S.length c6) S.length (rcells S) (by rfl) (World.ownsRow.alloc how5 _) (some ⟨w5.heap.size, 0, none⟩) 1 1 (w5.heap.size + 1) [.slice A5 xr.length c5, .int .i64 (-xn)] (by rfl) (by rfl) (Row.new' _ _ _ rfl rfl (Nat.lt_succ_self _)) (rcells_one [⟨xr, A5, c5, -xn⟩]) hmx hby (Nat.le_trans hs15 (le_alloc _ _)) ?_; intro v6 w6 hown6 hg6 hif6; obtain ⟨A8, c8, rfl⟩ := own_formS hown6; have hz5 : w1.heap.size ≤ (w5.alloc (.cells #[.slice A5 xr.length c5, .int .i64 (-xn)] 28)).heap.size := Nat.le_trans hs15 (le_alloc _ _); have hy5 : wr.heap.size < (w5.alloc (.cells #[.slice A5 xr.length c5, .int .i64 (-xn)] 28)).heap.size := Nat.lt_of_lt_of_le hbx5 (le_alloc _ _); have z6 : Below w1.heap.size W w6 := (z5.alloc hs15 _).grown hg6 hz5 (fun g e => (how5.lt g e).1); have y6 : ∀ o, w6.cell? ⟨wr.heap.size, o, none⟩ = W.cell? ⟨wr.heap.size, o, none⟩ := fun o => (keepG hg6 hy5 (fun e => Nat.lt_irrefl _ (HOWN.out.lt _ e.symm).2) o).trans ((keepA hbx5 hs15 y5 z5).1 o)))
        -- STOP-p
        all_goals
          go_wp2
          have HNEW9 := hid ((hnw5.step (alloc_below (Below.refl _ _) (.cells #[.slice A5 xr.length c5, .int .i64 (-xn)] 28))).grown hg6 hif6)
          have HROW9 := hid (hrow5.step (alloc_below (Below.refl _ _) (.cells #[.slice A5 xr.length c5, .int .i64 (-xn)] 28)))
          have HLO : Hid (NewAt w1.heap.size A5) := hid (fun b off q e => by have := hnew5 b off q e; simp at this; omega)
          have HA5 : Hid (∀ b off q, A5 = some ⟨b, off, q⟩ → some b ≠ (Value.slice A6 S.length c6).ownBlock) := hid (fun b off q e e2 => by
            have q1 := hnew5 b off q e
            have q2 := (HOWN.out.lt b e2.symm).2
            simp at q1
            omega)
          have HIN := hid hin5
          have HIF := hid hif6
          have HG6 := hid hg6
          have HO6 := hid hown6
          have Z6 := hid z6
          clear hown6 hg6 hif6 hin5 hrow5 hnew5 hnw5 how5 y5 y6 z5 z6
          go_roundw
          case rel =>
            have hr9 := (HROW9.out.grown_ne (Nat.le_refl _) HG6.out HA5.out).more HG6.out.size
            refine ⟨i + 1, S ++ [⟨xr, A5, c5, -xn⟩], by omega, by go_num, by have := HSI.out; simp; omega, hid ?_, ?_, hid ?_, hid (HB2.out.trans Z6.out)⟩
            · rw [HST.out]
              show (S ++ [(⟨xr, A5, c5, -xn⟩ : IR)]).map IR.it = _
              rw [List.map_append, show S.map IR.it = its S from rfl, HIS.out, negL, negL, List.map_append]
              rfl
            · rw [rcells_snoc, List.length_append]
              exact HO6
            · refine RowsNew.snoc HNEW9.out (x := (⟨xr, A5, c5, -xn⟩ : IR)) hr9 HLO.out (fun b off q e => ?_) (by simp only; omega)
              · have hlt9 := HIN.out b off q e
                have hsz7 := HG6.out.size
                simp at hsz7
                refine ⟨?_, by omega⟩
                rcases HIF.out with h | h
                · rw [h]; exact HA5.out b off q e
                · rw [h]; intro e2; injection e2 with e2; simp at e2; omega
          case measure => simp [intOf]; omega
      · have hf : M.take i = M := List.take_of_length_le (by omega)
        have HF : Hid (its S = X) := hid (by rw [HIS.out, hf, HX.out])
        clear hf
        go_wp2
        go_ret2
        exact ⟨A6, c6, S, rfl, HF.out, own_baseS HOWN.out (by omega), fun x hx => by
          obtain ⟨q1, q2, q3, q4⟩ := HNEW.out x hx
          exact ⟨q1, newAt_le q2 (by omega), q3, q4⟩, Below.step' HB1.out HB.out⟩
end Go.Proofs.Ytmcdaibdpeeefaa
/- slices.Equal at int, EqualFunc at Item, viewref.SameSet. -/
namespace Go.Proofs.Ytmcdaibdpeeefaa
set_option linter.unusedVariables false
set_option linter.unusedSimpArgs false
open Go.ChangeShapes Go.WideShapes Go.ChangeAt Go.RowKit

set_option maxHeartbeats 400000 in
set_option maxRecDepth 100000 in
theorem equalN_any (l m : List Int) (A B : Option Addr) (c e : Nat) (w : World) (hr : Row w w.heap.size A (icells' l)) (hs : Row w w.heap.size B (icells' m)) (hl : l.length ≤ 9223372036854775807) (hm : m.length ≤ 9223372036854775807) :
    Calls Try.prog 18 #[.slice A l.length c, .slice B m.length e] w fun e w' => e = .returned (.bool (decide (l = m))) ∧ Below w.heap.size w w' := by
  have HR := hid hr
  have HS := hid hs
  clear hr hs
  by_cases hlen : l.length = m.length
  · have hne : ((l.length : Int) != (m.length : Int)) = false := by simp [hlen]
    have HL := hid hlen
    clear hlen
    go_enter Try.func18, Try.ntmps18
    go_wp2
    go_loopw [13] (fun i wr => (∃ k : Nat, k ≤ l.length ∧ i = .int .i64 k ∧ ∀ j (h : j < l.length) (h' : j < m.length), j < k → l[j] = m[j]) ∧ Below w.heap.size w wr) (fun i _ => l.length - (intOf i).toNat)
    case atStart => exact ⟨⟨0, by omega, rfl, fun j _ _ h => absurd h (by omega)⟩, Below.refl _ _⟩
    case round =>
      obtain ⟨⟨k, hk, rfl, hno⟩, hbw⟩ := hrel
      by_cases hlt : k < l.length
      · have hlt' : k < m.length := by have := HL.out; omega
        obtain ⟨b, off, rfl, hb, h0⟩ := (HR.out.below hbw (Nat.le_refl _)).int' hlt
        obtain ⟨b', off', rfl, hb', h0'⟩ := (HS.out.below hbw (Nat.le_refl _)).int' hlt'
        have HN := hid hno
        have HB := hid hbw
        clear hno hbw
        generalize hd : l[k] = d at *
        generalize hd' : m[k] = d' at *
        have HD := hid hd
        have HD' := hid hd'
        clear hd hd'
        by_cases hq : d = d'
        · have q : (d != d') = false := by simp [hq]
          have HQ := hid hq
          clear hq
          go_wp2
          refine wp_region_quiet_lit (by kernel_rfl) (by kernel_rfl) ?_
          repeat (any_goals ((with_reducible refine wpQuiet_step (fun K hK => ?_)); go_simp; first | (with_reducible refine hK _ ?_; clear hK K) | ((with_reducible apply Exists.intro); (with_reducible refine ⟨fun _ => ?_, hK _ ?_⟩); (fail); clear hK K) | ((with_reducible refine (if_neg ?_).mpr (hK _ ?_)); (decide); clear hK K) | (split <;> (with_reducible refine hK _ ?_; clear hK K))))
          all_goals ((with_reducible refine wpQuiet_nil ?_); intro _ hw'; obtain ⟨nq, hw''⟩ := hw'; subst hw'')
          go_wp2
          go_roundw
          case rel =>
            refine ⟨⟨k + 1, by omega, by go_num, fun j h h' hj => ?_⟩, below_drewN HB.out _⟩
            by_cases e : j = k
            · subst e; rw [HD.out, HD'.out]; exact HQ.out
            · exact HN.out j h h' (by omega)
          case measure => simp [intOf]; omega
        · have q : (d != d') = true := by simp [hq]
          have HQ := hid hq
          clear hq
          go_wp2
          refine wp_region_quiet_lit (by kernel_rfl) (by kernel_rfl) ?_
          repeat (any_goals ((with_reducible refine wpQuiet_step (fun K hK => ?_)); go_simp; first | (with_reducible refine hK _ ?_; clear hK K) | ((with_reducible apply Exists.intro); (with_reducible refine ⟨fun _ => ?_, hK _ ?_⟩); (fail); clear hK K) | ((with_reducible refine (if_neg ?_).mpr (hK _ ?_)); (decide); clear hK K) | (split <;> (with_reducible refine hK _ ?_; clear hK K))))
          all_goals ((with_reducible refine wpQuiet_nil ?_); intro _ hw'; obtain ⟨nq, hw''⟩ := hw'; subst hw'')
          go_wp2
          go_ret
          refine ⟨ret_bool ?_, below_drewN HB.out _⟩
          symm
          rw [decide_eq_false_iff_not]
          rintro rfl
          exact HQ.out (HD.out.symm.trans HD'.out)
      · go_wp2
        go_ret
        refine ⟨ret_bool ?_, hbw⟩
        have : l = m := List.ext_getElem HL.out fun j h h' => hno j h h' (by omega)
        simp [this]
  · have hne : ((l.length : Int) != (m.length : Int)) = true := by simp; omega
    go_enter Try.func18, Try.ntmps18
    go_wp2
    go_ret
    exact ⟨ret_bool (by symm; simp; rintro rfl; exact hlen rfl), Below.refl _ _⟩


set_option maxHeartbeats 400000 in
set_option maxRecDepth 100000 in
theorem same1_any (x y : IR) (w : World) (hx : Row w w.heap.size x.A (icells' x.row)) (hxl : x.row.length ≤ 9223372036854775807) (hy : Row w w.heap.size y.A (icells' y.row)) (hyl : y.row.length ≤ 9223372036854775807) :
    Calls Try.prog 40 #[.agg x.cells.toArray, .agg y.cells.toArray] w fun e w' => e = .returned (.bool (decide (x.it = y.it))) ∧ Below w.heap.size w w' := by
  obtain ⟨xr, xA, xk, xn⟩ := x
  obtain ⟨yr, yA, yk, yn⟩ := y
  simp only at hx hxl hy hyl
  have HC := hid (fun w1 (hb : Below w.heap.size w w1) => equalN_any xr yr xA yA xk yk w1 (hx.step hb) (hy.step hb) hxl hyl)
  clear hx hy
  have HX : Hid (decide (IR.it ⟨xr, xA, xk, xn⟩ = IR.it ⟨yr, yA, yk, yn⟩) = (decide (xn = yn) && decide (xr = yr))) := hid (by
    simp only [IR.it, Prod.mk.injEq]
    by_cases h1 : xr = yr <;> by_cases h2 : xn = yn <;> simp [h1, h2])
  obtain ⟨R, hR⟩ : ∃ R, R = decide (IR.it ⟨xr, xA, xk, xn⟩ = IR.it ⟨yr, yA, yk, yn⟩) := ⟨_, rfl⟩
  rw [← hR] at HX ⊢
  clear hR
  obtain ⟨rb, hrb⟩ : ∃ b, b = decide (xr = yr) := ⟨_, rfl⟩
  rw [← hrb] at HC HX
  clear hrb
  simp only [IR.cells]
  by_cases h : xn = yn
  · have t1 : (xn == yn) = true := by simp [h]
    have HD : Hid (R = rb) := hid (by rw [HX.out, decide_eq_true h]; rfl)
    clear h
    go_enter Try.func40, Try.ntmps40
    go_wp2_with fail
    refine (HC.out _ (by (repeat' (first | (with_reducible exact Below.refl _ _) | (with_reducible assumption) | (with_reducible refine below_drewN ?_ _) | (with_reducible refine Below.drew ?_) | (with_reducible refine Below.alloc ?_ ?_ _) | (with_reducible refine Below.setCell ?_ ?_ _) | (refine Below.trans ?_ (Below.mono (by assumption) ?_)) | go_size)))).mono ?_
    rintro e w1 ⟨rfl, hb1⟩
    have hB1 : Below w.heap.size w w1 := (by refine Below.step' ?_ hb1; (repeat' (first | (with_reducible exact Below.refl _ _) | (with_reducible assumption) | (with_reducible refine below_drewN ?_ _) | (with_reducible refine Below.drew ?_) | (with_reducible refine Below.alloc ?_ ?_ _) | (with_reducible refine Below.setCell ?_ ?_ _) | (refine Below.trans ?_ (Below.mono (by assumption) ?_)) | go_size)))
    clear hb1
    go_wp2
    go_ret
    exact ⟨ret_bool HD.out.symm, hB1⟩
  · have t1 : (xn == yn) = false := by simp [h]
    have HD : Hid (R = false) := hid (by rw [HX.out, decide_eq_false h]; rfl)
    clear h
    go_enter Try.func40, Try.ntmps40
    go_wp2
    go_ret
    exact ⟨ret_bool HD.out.symm, by (repeat' (first | (with_reducible exact Below.refl _ _) | (with_reducible assumption) | (with_reducible refine below_drewN ?_ _) | (with_reducible refine Below.drew ?_) | (with_reducible refine Below.alloc ?_ ?_ _) | (with_reducible refine Below.setCell ?_ ?_ _) | (refine Below.trans ?_ (Below.mono (by assumption) ?_)) | go_size))⟩
theorem enters_same1 : ∀ args w, (callFunc 40 args).run Try.prog w = .ok (.enter 40 args) w := enters_of Try.func40 (by kernel_rfl) rfl

set_option maxHeartbeats 1000000 in
set_option maxRecDepth 100000 in
theorem equalFunc_any (M1 M2 : List IR) (A1 A2 : Option Addr) (c1 c2 : Nat) (w : World) (hr1 : RowI w w.heap.size A1 M1) (hl1 : M1.length ≤ 9223372036854775807) (hr2 : RowI w w.heap.size A2 M2) (hl2 : M2.length ≤ 9223372036854775807) :
    Calls Try.prog 39 #[.slice A1 M1.length c1, .slice A2 M2.length c2, .func (.func 40) #[] #[]] w fun e w' => e = .returned (.bool (decide (its M1 = its M2))) ∧ Below w.heap.size w w' := by
  have HR1 := hid hr1
  have HR2 := hid hr2
  have eg := enters_same1
  clear hr1 hr2
  obtain ⟨R, hR⟩ : ∃ R, R = decide (its M1 = its M2) := ⟨_, rfl⟩
  rw [← hR]
  have HRR := hid hR
  clear hR
  by_cases hlen : M1.length = M2.length
  · have hne : ((M1.length : Int) != (M2.length : Int)) = false := by simp [hlen]
    have HL := hid hlen
    clear hlen
    go_enter Try.func39, Try.ntmps39
    go_wp2_with fail
    go_loopw [17] (fun s17 wr => ∃ k : Nat, k ≤ M1.length ∧ s17 = .int .i64 k ∧ Hid (∀ j (h : j < M1.length) (h' : j < M2.length), j < k → M1[j].it = M2[j].it) ∧ Hid (Below w.heap.size w wr)) (fun s17 _ => M1.length - (intOf s17).toNat)
    case atStart => exact ⟨0, by omega, rfl, hid (fun j _ _ h => by omega), hid (Below.refl _ _)⟩
    case round =>
      obtain ⟨k, hk, rfl, HNO, HB⟩ := hrel
      by_cases hlt : k < M1.length
      · have hlt' : k < M2.length := by have := HL.out; omega
        have HS1 := hid (HR1.out.step HB.out)
        have HS2 := hid (HR2.out.step HB.out)
        obtain ⟨b, off, rfl, hb, h0, h1⟩ := HS1.out.1.it hlt
        obtain ⟨b', off', rfl, hb', h0', h1'⟩ := HS2.out.1.it hlt'
        have q1 := HS1.out.2 _ (List.getElem_mem hlt)
        have q2 := HS2.out.2 _ (List.getElem_mem hlt')
        have HXY : Hid (∀ j (h : j < M1.length) (h' : j < M2.length), j = k → (M1[j].it = M2[j].it) = (M1[k].it = M2[k].it)) := hid (fun j h h' e => by subst e; rfl)
        generalize M1[k] = x at *
        generalize M2[k] = y at *
        have HCL := hid (fun w1 (hb : Below wr.heap.size wr w1) => same1_any x y w1 (q1.1.step hb) q1.2 (q2.1.step hb) q2.2)
        clear q1 q2
        obtain ⟨bq, hbq⟩ : ∃ q, q = decide (x.it = y.it) := ⟨_, rfl⟩
        rw [← hbq] at HCL
        have HBQ := hid hbq
        clear hbq
        obtain ⟨xr, xA, xk, xn⟩ := x
        obtain ⟨yr, yA, yk, yn⟩ := y
        simp only [IR.cells] at h0 h1 h0' h1' HCL
        have hnb : (b' = wr.heap.size) = False := by simp; omega
        cases bq
        · have HD : Hid (R = false) := hid (by
            rw [HRR.out, decide_eq_false_iff_not]
            intro e
            have h3 : (its M1)[k]? = (its M2)[k]? := by rw [e]
            rw [List.getElem?_eq_getElem (by rw [its_len]; exact hlt), List.getElem?_eq_getElem (by rw [its_len]; exact hlt')] at h3
            simp only [its, List.getElem_map, Option.some.injEq] at h3
            rw [HXY.out k hlt hlt' rfl] at h3
            have := HBQ.out
            rw [decide_eq_true h3] at this
            cases this)
          go_wp2_with fail
          refine (HCL.out _ (by (repeat' (first | (with_reducible exact Below.refl _ _) | (with_reducible assumption) | (with_reducible refine below_drewN ?_ _) | (with_reducible refine Below.drew ?_) | (with_reducible refine Below.alloc ?_ ?_ _) | (with_reducible refine Below.setCell ?_ ?_ _) | (refine Below.trans ?_ (Below.mono (by assumption) ?_)) | go_size)))).mono ?_
          rintro e w1 ⟨rfl, hb1⟩
          have hB1 : Below wr.heap.size wr w1 := (by refine Below.step' ?_ hb1; (repeat' (first | (with_reducible exact Below.refl _ _) | (with_reducible assumption) | (with_reducible refine below_drewN ?_ _) | (with_reducible refine Below.drew ?_) | (with_reducible refine Below.alloc ?_ ?_ _) | (with_reducible refine Below.setCell ?_ ?_ _) | (refine Below.trans ?_ (Below.mono (by assumption) ?_)) | go_size)))
          clear hb1
          go_wp2
          go_ret
          exact ⟨ret_bool HD.out.symm, Below.step' HB.out hB1⟩
        · go_wp2_with fail
          refine (HCL.out _ (by (repeat' (first | (with_reducible exact Below.refl _ _) | (with_reducible assumption) | (with_reducible refine below_drewN ?_ _) | (with_reducible refine Below.drew ?_) | (with_reducible refine Below.alloc ?_ ?_ _) | (with_reducible refine Below.setCell ?_ ?_ _) | (refine Below.trans ?_ (Below.mono (by assumption) ?_)) | go_size)))).mono ?_
          rintro e w1 ⟨rfl, hb1⟩
          have hB1 : Below wr.heap.size wr w1 := (by refine Below.step' ?_ hb1; (repeat' (first | (with_reducible exact Below.refl _ _) | (with_reducible assumption) | (with_reducible refine below_drewN ?_ _) | (with_reducible refine Below.drew ?_) | (with_reducible refine Below.alloc ?_ ?_ _) | (with_reducible refine Below.setCell ?_ ?_ _) | (refine Below.trans ?_ (Below.mono (by assumption) ?_)) | go_size)))
          have HB1 := hid hB1
          clear hb1 hB1
          go_wp2
          go_roundw
          case rel =>
            refine ⟨k + 1, by omega, by go_num, hid (fun j h h' hj => ?_), hid (Below.step' HB.out HB1.out)⟩
            by_cases e : j = k
            · rw [HXY.out j h h' e]; exact of_decide_eq_true HBQ.out.symm
            · exact HNO.out j h h' (by omega)
          case measure => simp [intOf]; omega
      · have HD : Hid (R = true) := hid (by
          rw [HRR.out, decide_eq_true_eq]
          refine List.ext_getElem (by rw [its_len, its_len]; exact HL.out) fun j h h' => ?_
          simp only [its, List.getElem_map]
          rw [its_len] at h h'
          exact HNO.out j h h' (by omega))
        go_wp2
        go_ret
        exact ⟨ret_bool HD.out.symm, HB.out⟩
  · have hne : ((M1.length : Int) != (M2.length : Int)) = true := by simp; omega
    have HD : Hid (R = false) := hid (by
      rw [HRR.out, decide_eq_false_iff_not]
      intro e
      exact hlen (by rw [← its_len M1, ← its_len M2, e]))
    go_enter Try.func39, Try.ntmps39
    go_wp2
    go_ret
    exact ⟨ret_bool HD.out.symm, Below.refl _ _⟩

set_option maxRecDepth 100000 in
theorem sameSet_any (M1 M2 : List IR) (A1 A2 : Option Addr) (c1 c2 : Nat) (w : World) (hr1 : RowI w w.heap.size A1 M1) (hl1 : M1.length ≤ 9223372036854775807) (hr2 : RowI w w.heap.size A2 M2) (hl2 : M2.length ≤ 9223372036854775807) :
    Calls Try.prog 13 #[.slice A1 M1.length c1, .slice A2 M2.length c2] w fun e w' => e = .returned (.bool (decide (its M1 = its M2))) ∧ Below w.heap.size w w' := by
  have HC := hid (equalFunc_any M1 M2 A1 A2 c1 c2 w hr1 hl1 hr2 hl2)
  clear hr1 hr2
  obtain ⟨R, hR⟩ : ∃ R, R = decide (its M1 = its M2) := ⟨_, rfl⟩
  rw [← hR] at HC ⊢
  clear hR
  go_enter Try.func13, Try.ntmps13
  go_wp2_with fail
  refine HC.out.mono ?_
  rintro e w1 ⟨rfl, hb1⟩
  go_wp2
  go_ret
  exact ⟨rfl, hb1⟩

set_option maxRecDepth 100000 in
theorem ksum_any (v : Value) (x : Int) (w : World) (hx : x = 0) : Calls Try.prog 14 #[v, .int .i64 x] w fun e w' => e = .returned v ∧ w = w' := by
  subst hx
  go_enter Try.func14, Try.ntmps14
  go_wp2
  go_ret
  exact ⟨rfl, rfl⟩
end Go.Proofs.Ytmcdaibdpeeefaa
/- Sets with weights are a group: the plain law. -/
namespace Go.Proofs.Ytmcdaibdpeeefaa
set_option linter.unusedVariables false
set_option linter.unusedSimpArgs false

theorem norm_set {l : List It} (h : normE l = 0) : setI (normX l) = 0 ∧ normX l = sumL l := by
  have hx : normX l = sumL l := by unfold normX; rw [if_pos h]
  refine ⟨?_, hx⟩
  rw [hx]
  unfold normE at h
  by_cases h4 : 400 < l.length
  · rw [if_pos h4] at h; omega
  · rw [if_neg h4] at h
    by_cases hb : l.any badB = true
    · rw [if_pos hb] at h; omega
    · rw [if_neg hb] at h; exact done_set h
theorem tot_neg (r : List Int) : ∀ a : List It, tot r (negL a) = - tot r a
  | [] => rfl
  | x :: a => by
    have ih := tot_neg r a
    unfold negL at ih
    simp only [negL, List.map_cons, tot, ih]
    split <;> omega
theorem neg_set {a : List It} (h : setI a = 0) : setI (negL a) = 0 := by
  obtain ⟨h1, h2, h3⟩ := setI_zero.1 h
  have hb : ∀ x ∈ a, badB (x.1, -x.2) = false := fun x hx => by
    have := h2 x hx
    unfold badB farB at this ⊢
    simp only [Bool.or_eq_false_iff, decide_eq_false_iff_not] at this ⊢
    exact ⟨this.1, by omega, by omega⟩
  refine setI_zero.2 ⟨by unfold negL; rw [List.length_map]; exact h1, fun x hx => ?_, strict_of (fun x hx => ?_) ?_⟩
  · obtain ⟨y, hy, rfl⟩ := List.mem_map.1 hx; exact hb y hy
  · obtain ⟨y, hy, rfl⟩ := List.mem_map.1 hx
    have h5 := strict_ne h3 y hy
    have h6 := badB_false (h2 y hy)
    exact ⟨by simp only; omega, wrp_id (by simp only; omega)⟩
  · exact List.pairwise_map.2 ((strict_pair h3).imp fun {x y} h => h)
theorem addE_sets {a b : List It} (h1 : setI a = 0) (h2 : setI b = 0) : addE a b = doneE (sumL (a ++ b)) := by
  unfold addE; rw [if_neg (by simp [h1]), if_neg (by simp [h2])]
theorem add_neg {a : List It} (h : setI a = 0) : addE a (negL a) = 0 ∧ addX a (negL a) = [] := by
  have e : sumL (a ++ negL a) = [] := by
    refine (sumL_eq (S := []) trivial fun r => ?_).symm
    unfold wt
    rw [tot_app, tot_neg]
    have : tot r a + -tot r a = 0 := by omega
    rw [this]; rfl
  have e2 : addE a (negL a) = 0 := by rw [addE_sets h (neg_set h), e]; rfl
  exact ⟨e2, by unfold addX; rw [if_pos e2, e]⟩
theorem add_comm {a b : List It} (h1 : setI a = 0) (h2 : setI b = 0) : addE a b = addE b a ∧ addX a b = addX b a := by
  have e : addE a b = addE b a := by rw [addE_sets h1 h2, addE_sets h2 h1, sumL_comm]
  exact ⟨e, by unfold addX; rw [e, sumL_comm]⟩
theorem add_set {a b : List It} (h1 : setI a = 0) (h2 : setI b = 0) (h : addE a b = 0) : setI (addX a b) = 0 ∧ addX a b = sumL (a ++ b) := by
  have e : addX a b = sumL (a ++ b) := by unfold addX; rw [if_pos h]
  rw [addE_sets h1 h2] at h
  exact ⟨by rw [e]; exact done_set h, e⟩
theorem add_assoc {a b c : List It} (h1 : setI a = 0) (h2 : setI b = 0) (h3 : setI c = 0) (h4 : addE a b = 0) (h5 : addE b c = 0) : addE (addX a b) c = addE a (addX b c) ∧ addX (addX a b) c = addX a (addX b c) := by
  obtain ⟨s1, e1⟩ := add_set h1 h2 h4
  obtain ⟨s2, e2⟩ := add_set h2 h3 h5
  have k : sumL (addX a b ++ c) = sumL (a ++ addX b c) := by
    rw [e1, e2, sumL_app_sumL, sumL_comm a (sumL (b ++ c)), sumL_app_sumL, sumL_comm (b ++ c) a, List.append_assoc]
  have e : addE (addX a b) c = addE a (addX b c) := by rw [addE_sets s1 h3, addE_sets h1 s2, k]
  exact ⟨e, by unfold addX at k ⊢; rw [show addX a b = if addE a b = 0 then sumL (a ++ b) else [] from rfl, show addX b c = if addE b c = 0 then sumL (b ++ c) else [] from rfl] at e; rw [e, k]⟩
/-- The set that the law tries first. -/
theorem group_const : normE [([2], 1), ([1], 5), ([2], -1)] = 0 ∧ normX [([2], 1), ([1], 5), ([2], -1)] = [([1], 5)] := by
  have e : sumL [([2], 1), ([1], 5), ([2], -1)] = [([1], 5)] := by
    refine (sumL_eq (S := [([1], 5)]) ⟨by decide, by decide, by simp, trivial⟩ fun r => ?_).symm
    unfold wt
    simp only [tot]
    congr 1
    split <;> split <;> omega
  have e2 : normE [([2], 1), ([1], 5), ([2], -1)] = 0 := by
    unfold normE
    rw [if_neg (by decide), if_neg (by decide), e]
    decide
  exact ⟨e2, by unfold normX; rw [if_pos e2, e]⟩
end Go.Proofs.Ytmcdaibdpeeefaa
