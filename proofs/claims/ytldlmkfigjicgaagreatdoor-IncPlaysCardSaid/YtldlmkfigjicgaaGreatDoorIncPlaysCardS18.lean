/- ToO, RsA, RwB, DotB, DotC, DotD, DotJ, DotK, DotL, DotN, DotP, Less, Flat, ShelfI, Ints, Vals -/
import Derived.Test.YtldlmkfigjicgaaGreatDoorIncPlaysCardS17
import Derived.Deep.CutBlock
import Derived.Deep.CutRange
import Derived.Shelf.Abstract
import Derived.Shelf.SlSortCmp.NoneTotal
import Derived.WalkSpells
import Derived.Maps.AppendAt
import Derived.Shelf.Slices.CompactI
import Derived.Deep.AppendLies
import Derived.Deep.RegionHeld3
import Derived.Shelf.Sort.Plain
import Derived.Shelf.Slices.In.SortNone
import Derived.Ground.NamesProg
import Derived.Ground.Names2Prog
import Derived.Test.YtldlmkfigjicgaaGreatDoorRows
/- viewref.Order. -/
namespace Go.Proofs.YtldlmkfigjicgaaGreatDoor
set_option linter.unusedVariables false
set_option linter.unusedSimpArgs false
open Go.ChangeShapes Go.WideShapes Go.ChangeAt Go.RowKit

set_option maxHeartbeats 1000000 in
set_option maxRecDepth 100000 in
theorem Rorder_any (l m : List Int) (A B : Option Addr) (c e : Nat) (w : World) (hr : Row w w.heap.size A (icells' l)) (hs : Row w w.heap.size B (icells' m)) (hl : l.length ≤ 9223372036854775807) (hm : m.length ≤ 9223372036854775807) :
    Calls Tryz.prog 17 #[.slice A l.length c, .slice B m.length e] w fun e w' => e = .returned (.int .i64 (cmpL l m)) ∧ ∃ q, w' = w.drewN q := by
  have HR := hid hr
  have HS := hid hs
  obtain ⟨R, hR⟩ : ∃ R, R = cmpL l m := ⟨_, rfl⟩
  rw [← hR]
  have HR0 := hid hR
  clear hr hs hR
  go_enter Tryz.func17, Tryz.ntmps17
  go_wp2_with fail
  -- STOP-a
  go_loopw [5] (fun s5 wr => ∃ k : Nat, k ≤ l.length ∧ k ≤ m.length ∧ s5 = .int .i64 k ∧ Hid (R = cmpL (l.drop k) (m.drop k)) ∧ ∃ n, wr = w.drewN n) (fun s5 _ => l.length - (intOf s5).toNat)
  case atStart => exact ⟨0, by omega, by omega, rfl, HR0, 0, rfl⟩
  case round =>
    obtain ⟨k, hkl, hkm, rfl, HK, n, rfl⟩ := hrel
    by_cases h1 : k < l.length
    · have t1 : ((k : Int) < (l.length : Int)) = True := eq_true (by omega)
      by_cases h2 : k < m.length
      · have t2 : ((k : Int) < (m.length : Int)) = True := eq_true (by omega)
        obtain ⟨b, off, rfl, hb, c0⟩ := HR.out.int' h1
        obtain ⟨b', off', rfl, hb', c1⟩ := HS.out.int' h2
        have HC := hid (show R = if l[k] < m[k] then -1 else if m[k] < l[k] then 1 else cmpL (l.drop (k + 1)) (m.drop (k + 1)) by rw [HK.out, List.drop_eq_getElem_cons h1, List.drop_eq_getElem_cons h2, cmpL])
        generalize l[k] = x at *
        generalize m[k] = y at *
        clear HK HR0
        by_cases q1 : x < y
        · have t3 : (x < y) = True := eq_true q1
          have he : Hid (R = -1) := hid (by rw [HC.out, if_pos q1])
          clear HC q1
          go_wp2_with fail
          -- STOP-b
          refine wp_region_quiet_lit (by kernel_rfl) (by kernel_rfl) ?_
          repeat (any_goals ((with_reducible refine wpQuiet_step (fun K hK => ?_)); go_simp; first | (with_reducible refine hK _ ?_; clear hK K) | ((with_reducible apply Exists.intro); (with_reducible refine ⟨fun _ => ?_, hK _ ?_⟩); (fail); clear hK K) | ((with_reducible refine (if_neg ?_).mpr (hK _ ?_)); (decide); clear hK K) | (split <;> (with_reducible refine hK _ ?_; clear hK K))))
          all_goals ((with_reducible refine wpQuiet_nil ?_); intro _ hw'; obtain ⟨nq, hw''⟩ := hw'; subst hw'')
          all_goals
            go_wp2_with fail
            go_ret
            exact ⟨ret_int he.out.symm, _, by first | rfl | (simp only [World.drewN_drewN, World.drew_drewN, World.drewN_drew]; rfl)⟩
        · by_cases q2 : y < x
          · have t3 : (x < y) = False := eq_false q1
            have t4 : (y < x) = True := eq_true q2
            have he : Hid (R = 1) := hid (by rw [HC.out, if_neg q1, if_pos q2])
            clear HC q1 q2
            go_wp2_with fail
            refine wp_region_quiet_lit (by kernel_rfl) (by kernel_rfl) ?_
            repeat (any_goals ((with_reducible refine wpQuiet_step (fun K hK => ?_)); go_simp; first | (with_reducible refine hK _ ?_; clear hK K) | ((with_reducible apply Exists.intro); (with_reducible refine ⟨fun _ => ?_, hK _ ?_⟩); (fail); clear hK K) | ((with_reducible refine (if_neg ?_).mpr (hK _ ?_)); (decide); clear hK K) | (split <;> (with_reducible refine hK _ ?_; clear hK K))))
            all_goals ((with_reducible refine wpQuiet_nil ?_); intro _ hw'; obtain ⟨nq, hw''⟩ := hw'; subst hw'')
            all_goals
              go_wp2_with fail
              refine wp_region_quiet_lit (by kernel_rfl) (by kernel_rfl) ?_
              repeat (any_goals ((with_reducible refine wpQuiet_step (fun K hK => ?_)); go_simp; first | (with_reducible refine hK _ ?_; clear hK K) | ((with_reducible apply Exists.intro); (with_reducible refine ⟨fun _ => ?_, hK _ ?_⟩); (fail); clear hK K) | ((with_reducible refine (if_neg ?_).mpr (hK _ ?_)); (decide); clear hK K) | (split <;> (with_reducible refine hK _ ?_; clear hK K))))
              all_goals ((with_reducible refine wpQuiet_nil ?_); intro _ hw'; obtain ⟨nq, hw''⟩ := hw'; subst hw'')
              all_goals
                go_wp2_with fail
                go_ret
                exact ⟨ret_int he.out.symm, _, by first | rfl | (simp only [World.drewN_drewN, World.drew_drewN, World.drewN_drew]; rfl)⟩
          · have t3 : (x < y) = False := eq_false q1
            have t4 : (y < x) = False := eq_false q2
            have he : Hid (R = cmpL (l.drop (k + 1)) (m.drop (k + 1))) := hid (by rw [HC.out, if_neg q1, if_neg q2])
            clear HC q1 q2
            go_wp2_with fail
            refine wp_region_quiet_lit (by kernel_rfl) (by kernel_rfl) ?_
            repeat (any_goals ((with_reducible refine wpQuiet_step (fun K hK => ?_)); go_simp; first | (with_reducible refine hK _ ?_; clear hK K) | ((with_reducible apply Exists.intro); (with_reducible refine ⟨fun _ => ?_, hK _ ?_⟩); (fail); clear hK K) | ((with_reducible refine (if_neg ?_).mpr (hK _ ?_)); (decide); clear hK K) | (split <;> (with_reducible refine hK _ ?_; clear hK K))))
            all_goals ((with_reducible refine wpQuiet_nil ?_); intro _ hw'; obtain ⟨nq, hw''⟩ := hw'; subst hw'')
            all_goals
              go_wp2_with fail
              refine wp_region_quiet_lit (by kernel_rfl) (by kernel_rfl) ?_
              repeat (any_goals ((with_reducible refine wpQuiet_step (fun K hK => ?_)); go_simp; first | (with_reducible refine hK _ ?_; clear hK K) | ((with_reducible apply Exists.intro); (with_reducible refine ⟨fun _ => ?_, hK _ ?_⟩); (fail); clear hK K) | ((with_reducible refine (if_neg ?_).mpr (hK _ ?_)); (decide); clear hK K) | (split <;> (with_reducible refine hK _ ?_; clear hK K))))
              all_goals ((with_reducible refine wpQuiet_nil ?_); intro _ hw'; obtain ⟨nq, hw''⟩ := hw'; subst hw'')
              all_goals
                go_wp2_with fail
                -- STOP-c
                go_roundw
                case rel => exact ⟨k + 1, by omega, by omega, by go_num, he, _, by first | rfl | (simp only [World.drewN_drewN, World.drew_drewN, World.drewN_drew]; rfl)⟩
                case measure => simp [intOf]; omega
      · have t2 : ((k : Int) < (m.length : Int)) = False := eq_false (by omega)
        have he : Hid (R = 1) := hid (by rw [HK.out, List.drop_eq_getElem_cons h1, show m.drop k = [] from List.drop_eq_nil_of_le (by omega)]; rfl)
        have t3 : ((l.length : Int) < (m.length : Int)) = False := eq_false (by omega)
        have t4 : ((m.length : Int) < (l.length : Int)) = True := eq_true (by omega)
        clear HK HR0
        go_wp2_with fail
        -- STOP-d
        go_ret
        exact ⟨ret_int he.out.symm, _, rfl⟩
    · have t1 : ((k : Int) < (l.length : Int)) = False := eq_false (by omega)
      by_cases h2 : l.length < m.length
      · have he : Hid (R = -1) := hid (by rw [HK.out, show l.drop k = [] from List.drop_eq_nil_of_le (by omega), List.drop_eq_getElem_cons (show k < m.length by omega)]; rfl)
        have t3 : ((l.length : Int) < (m.length : Int)) = True := eq_true (by omega)
        clear HK HR0
        go_wp2_with fail
        go_ret
        exact ⟨ret_int he.out.symm, _, rfl⟩
      · have he : Hid (R = 0) := hid (by rw [HK.out, show l.drop k = [] from List.drop_eq_nil_of_le (by omega), show m.drop k = [] from List.drop_eq_nil_of_le (by omega)]; rfl)
        have t3 : ((l.length : Int) < (m.length : Int)) = False := eq_false (by omega)
        have t4 : ((m.length : Int) < (l.length : Int)) = False := eq_false (by omega)
        clear HK HR0
        go_wp2_with fail
        go_ret
        exact ⟨ret_int he.out.symm, _, rfl⟩
end Go.Proofs.YtldlmkfigjicgaaGreatDoor
/- viewref.row, viewref.Set. -/
namespace Go.Proofs.YtldlmkfigjicgaaGreatDoor
set_option linter.unusedVariables false
set_option linter.unusedSimpArgs false
open Go.ChangeShapes Go.WideShapes Go.ChangeAt Go.RowKit

theorem inB_out (n : Int) : inB n (-1073741824) 1073741824 = !outB n := by
  unfold inB outB
  rw [Bool.eq_iff_iff]
  simp
theorem inB_far (n : Int) : inB n (-1048576) 1048576 = !farB n := by
  unfold inB farB
  rw [Bool.eq_iff_iff]
  simp
def okR (l : List Int) (i : Nat) : Bool := decide (l.length ≤ 8) && !(l.take i).any outB
theorem okR_zero (l : List Int) : okR l 0 = decide (l.length ≤ 8) := by simp [okR]
theorem okR_succ (l : List Int) {i : Nat} (h : i < l.length) : okR l (i + 1) = (okR l i && !outB l[i]) := by
  unfold okR
  rw [List.take_succ_eq_append_getElem h, List.any_append]
  simp [Bool.and_assoc]
theorem okR_all (l : List Int) : okR l l.length = rowB l := by unfold okR rowB; rw [List.take_length]
set_option maxHeartbeats 1000000 in
set_option maxRecDepth 100000 in
theorem Rrow_any (l : List Int) (A : Option Addr) (c : Nat) (w : World) (hr : Row w w.heap.size A (icells' l)) (hl : l.length ≤ 9223372036854775807) :
    Calls Tryz.prog 37 #[.slice A l.length c] w fun e w' => e = .returned (.bool (rowB l)) ∧ w = w' := by
  have HR := hid hr
  clear hr
  go_enter Tryz.func37, Tryz.ntmps37
  go_wp2_with fail
  -- STOP-a
  go_loopw [3, 4] (fun s3 s4 wr => ∃ i : Nat, i ≤ l.length ∧ s4 = .int .i64 i ∧ s3 = .bool (okR l i) ∧ wr = w) (fun _ s4 _ => l.length - (intOf s4).toNat)
  case atStart => exact ⟨0, by omega, rfl, by rw [okR_zero]; first | rfl | (congr 1; apply decide_eq_decide.2; omega), rfl⟩
  case round =>
    obtain ⟨i, hi, rfl, rfl, rfl⟩ := hrel
    by_cases hlt : i < l.length
    · have t1 : ((i : Int) < (l.length : Int)) = True := eq_true (by omega)
      obtain ⟨b, off, rfl, hb, h0⟩ := HR.out.int' hlt
      have HS := hid (okR_succ l hlt)
      have HI := hid (inB_out l[i])
      generalize l[i] = x at *
      obtain ⟨ok, hok⟩ : ∃ q, q = okR l i := ⟨_, rfl⟩
      rw [← hok] at HS ⊢
      clear hok
      cases ok
      · go_wp2_with fail
        -- STOP-b
        go_roundw
        case rel => exact ⟨i + 1, by omega, by go_num, by rw [HS.out]; rfl, by first | rfl | trivial⟩
        case measure => simp [intOf]; omega
      · go_wp2_with (go_at_call 38; refine (in_any _ _ _ _).mono ?_; rintro e w' ⟨rfl, rfl⟩)
        -- STOP-c
        go_roundw
        case rel => exact ⟨i + 1, by omega, by go_num, by rw [HS.out, ← HI.out]; rfl, by first | rfl | trivial⟩
        case measure => simp [intOf]; omega
    · have t1 : ((i : Int) < (l.length : Int)) = False := eq_false (by omega)
      have hil : i = l.length := by omega
      subst hil
      rw [okR_all]
      go_wp2_with fail
      -- STOP-d
      go_ret
      exact ⟨rfl, rfl⟩
set_option maxHeartbeats 4000000 in
set_option maxRecDepth 100000 in
theorem Rset_any (M : List IR) (A : Option Addr) (c : Nat) (w : World) (hr : RowI w w.heap.size A M) (hl : M.length ≤ 9223372036854775807) :
    Calls Tryz.prog 11 #[.slice A M.length c] w fun e w' => e = .returned (.int .i64 (setI (its M))) ∧ Below w.heap.size w w' := by
  have HR := hid hr
  clear hr
  have HE := hid (show setI (its M) = if 400 < (its M).length then 2 else if (List.range (its M).length).any (zbadAt (its M)) = true then 5 else 0 from rfl)
  obtain ⟨E, hE⟩ : ∃ E, E = setI (its M) := ⟨_, rfl⟩
  rw [← hE] at HE ⊢
  rw [its_len] at HE
  clear hE
  by_cases h4 : 400 < M.length
  · have h4' : (400 : Int) < (M.length : Int) := by omega
    have HD : Hid (E = 2) := hid (by rw [HE.out, if_pos h4])
    go_enter Tryz.func11, Tryz.ntmps11
    go_wp2
    go_ret
    exact ⟨ret_int (by rw [HD.out]), Below.refl _ _⟩
  · have h4' : (M.length : Int) ≤ 400 := by omega
    have h4n : M.length ≤ 400 := by omega
    replace HE : Hid (E = if (List.range M.length).any (zbadAt (its M)) = true then 5 else 0) := hid (by rw [HE.out, if_neg h4])
    clear h4
    go_enter Tryz.func11, Tryz.ntmps11
    go_wp2_with fail
    go_loopw [3] (fun s3 wr => ∃ i : Nat, i ≤ M.length ∧ s3 = .int .i64 i ∧ Hid (∀ j, j < i → zbadAt (its M) j = false) ∧ Hid (Below w.heap.size w wr)) (fun s3 _ => M.length - (intOf s3).toNat)
    case atStart => exact ⟨0, by omega, rfl, hid (fun j h => by omega), hid (Below.refl _ _)⟩
    case round =>
      obtain ⟨i, hi, rfl, HNO, HB⟩ := hrel
      obtain ⟨W, rfl⟩ : ∃ wx : World, wx = wr := ⟨_, rfl⟩
      by_cases hlt : i < M.length
      · have t1 : ((i : Int) < (M.length : Int)) = True := eq_true (by omega)
        have HRR := hid (HR.out.step HB.out)
        obtain ⟨b, off, rfl, hb, h0, h1⟩ := HRR.out.1.it hlt
        have hmem := List.getElem_mem hlt
        have hrw := HRR.out.2 _ hmem
        have HBA : Hid (zbadAt (its M) i = ((badB M[i].it || decide (M[i].n = 0)) || (if h : 0 < i then decide (0 ≤ cmpL M[i - 1].row M[i].row) else false))) := hid (by
          cases i with
          | zero => rw [badAt_zero (by rw [its_len]; exact hlt)]; simp [its]
          | succ k => rw [badAt_succ (by rw [its_len]; exact hlt)]; simp [its])
        have hprev : ∀ h : 0 < i, ∃ (y : List Int) (yA : Option Addr) (yk : Nat), W.cell? ⟨b, off + (i - 1) * 2, none⟩ = some (.slice yA y.length yk) ∧ Row W W.heap.size yA (icells' y) ∧ y.length ≤ 9223372036854775807 ∧ y = M[i - 1].row := fun h => by
          obtain ⟨b2, off2, hA2, hb2, g0, g1⟩ := HRR.out.1.it (show i - 1 < M.length by omega)
          injection hA2 with hA2
          injection hA2 with q1 q2
          subst q1 q2
          exact ⟨_, _, _, g0, (HRR.out.2 _ (List.getElem_mem _)).1, (HRR.out.2 _ (List.getElem_mem _)).2, rfl⟩
        obtain ⟨bad, hbad⟩ : ∃ bad, bad = zbadAt (its M) i := ⟨_, rfl⟩
        have HBD := hid hbad
        rw [← hbad] at HBA
        clear hbad hmem
        generalize M[i] = x at *
        obtain ⟨xr, xA, xk, xn⟩ := x
        simp only at h0 h1 hrw
        simp only [IR.it] at HBA
        obtain ⟨hrw1, hrw2⟩ := hrw
        have HROW := hid (fun w1 (hb : Below W.heap.size W w1) => Rrow_any xr xA xk w1 (hrw1.step hb) hrw2)
        have HFAR := hid (fun w1 => show Calls Tryz.prog 38 #[.int .i64 xn, .int .i64 (-1048576), .int .i64 1048576] w1 fun e w' => e = .returned (.bool (!farB xn)) ∧ w1 = w' from by rw [← inB_far]; exact in_any xn _ _ w1)
        have HXR := hid hrw1
        obtain ⟨rb, hrb⟩ : ∃ q, q = rowB xr := ⟨_, rfl⟩
        obtain ⟨fb, hfb⟩ : ∃ q, q = farB xn := ⟨_, rfl⟩
        rw [← hrb] at HROW
        rw [← hfb] at HFAR
        replace HBA : Hid (bad = (((!rb || fb) || decide (xn = 0)) || (if h : 0 < i then decide (0 ≤ cmpL M[i - 1].row xr) else false))) := hid (by rw [HBA.out, badB, ← hrb, ← hfb])
        clear hrb hfb
        have HPRE := hid hprev
        clear hprev hrw1
        go_upto_region 6 with fail
        -- STOP-e
        go_cut [55] from 13 to 55 (fun s wx => s = .bool bad ∧ Hid (Below W.heap.size W wx))
        case first =>
          cases rb
          · go_wp2
            refine region_ext (by kernel_rfl) (by kernel_rfl) (fun hext => ?_)
            repeat (any_goals ((with_reducible refine wpQuiet_step (fun K hK => ?_)); go_simp; first | (with_reducible refine hK _ ?_; clear hK K) | ((with_reducible apply Exists.intro); (with_reducible refine ⟨fun _ => ?_, hK _ ?_⟩); ((first | (go_at_call 37; exact ext_call_same _ (HROW.out _ (Ext.below _))) | (go_at_call 38; exact ext_call_same _ (HFAR.out _)) | (go_at_call 17; exact ext_call _ (Nat.le_refl _) (HORD.out _ (Ext.below _))))); clear hK K) | ((with_reducible refine (if_neg ?_).mpr (hK _ ?_)); (decide); clear hK K) | (split <;> (with_reducible refine hK _ ?_; clear hK K))))
            all_goals ((with_reducible refine wpQuiet_nil ?_); clear hext; intro w1 hx1; have hb1 := ext_below hx1; clear hx1)
            go_wp2
            all_goals
              go_meet
              case rel => exact ⟨by rw [HBA.out]; rfl, hid hb1⟩
          · by_cases hn : xn = 0
            · have t2 : (xn == 0) = true := by simp [hn]
              have HN := hid hn
              clear hn
              go_wp2
              refine region_ext (by kernel_rfl) (by kernel_rfl) (fun hext => ?_)
              repeat (any_goals ((with_reducible refine wpQuiet_step (fun K hK => ?_)); go_simp; first | (with_reducible refine hK _ ?_; clear hK K) | ((with_reducible apply Exists.intro); (with_reducible refine ⟨fun _ => ?_, hK _ ?_⟩); ((first | (go_at_call 37; exact ext_call_same _ (HROW.out _ (Ext.below _))) | (go_at_call 38; exact ext_call_same _ (HFAR.out _)) | (go_at_call 17; exact ext_call _ (Nat.le_refl _) (HORD.out _ (Ext.below _))))); clear hK K) | ((with_reducible refine (if_neg ?_).mpr (hK _ ?_)); (decide); clear hK K) | (split <;> (with_reducible refine hK _ ?_; clear hK K))))
              all_goals ((with_reducible refine wpQuiet_nil ?_); clear hext; intro w1 hx1; have hb1 := ext_below hx1; clear hx1)
              go_wp2
              all_goals
                go_meet
                case rel => exact ⟨by rw [HBA.out, decide_eq_true HN.out]; simp, hid hb1⟩
            · have t2 : (xn == 0) = false := by simp [hn]
              have HN := hid hn
              clear hn
              cases fb
              · by_cases hi0 : 0 < i
                · obtain ⟨y, yA, yk, g0, g1, g2, g3⟩ := HPRE.out hi0
                  have HORD := hid (fun w1 (hb1 : Below W.heap.size W w1) => (Rorder_any y xr yA xA yk xk w1 (g1.step hb1) (HXR.out.step hb1) g2 hrw2).mono fun e w' ⟨he, hq⟩ => (⟨he, by obtain ⟨q, hq⟩ := hq; rw [hq]; exact below_drewN (Below.refl _ _) q⟩ : e = Ending.returned (.int .i64 (cmpL y xr)) ∧ Below w1.heap.size w1 w'))
                  have hrng := cmpL_range y xr
                  obtain ⟨cv, hcv⟩ : ∃ q, q = cmpL y xr := ⟨_, rfl⟩
                  rw [← hcv] at HORD hrng
                  have HBB : Hid (bad = decide (0 ≤ cv)) := hid (by rw [HBA.out, dif_pos hi0, ← g3, ← hcv, decide_eq_false HN.out]; simp)
                  have hi1 : (0 : Int) < (i : Int) := by omega
                  have hw1 : IntKind.i64.wrap ((i : Int) - 1) = (i : Int) - 1 := IntWalk.i64_in _ (by omega)
                  have hi2 : ((i : Int) - 1).toNat = i - 1 := by omega
                  have hi3 : (0 : Int) ≤ (i : Int) - 1 := by omega
                  have hi4 : (1 : Int) ≤ (i : Int) := by omega
                  have hi5 : (i : Int) - 1 < (M.length : Int) := by omega
                  clear hcv g1 g3
                  by_cases hc : 0 ≤ cv
                  · have HC := hid hc
                    have hcd : (cv != -1) = true := by simp only [bne_iff_ne, ne_eq]; omega
                    clear hc hrng
                    go_wp2
                    refine region_ext (by kernel_rfl) (by kernel_rfl) (fun hext => ?_)
                    repeat (any_goals ((with_reducible refine wpQuiet_step (fun K hK => ?_)); go_simp; first | (with_reducible refine hK _ ?_; clear hK K) | ((with_reducible apply Exists.intro); (with_reducible refine ⟨fun _ => ?_, hK _ ?_⟩); ((first | (go_at_call 37; exact ext_call_same _ (HROW.out _ (Ext.below _))) | (go_at_call 38; exact ext_call_same _ (HFAR.out _)) | (go_at_call 17; exact ext_call _ (Nat.le_refl _) (HORD.out _ (Ext.below _))))); clear hK K) | ((with_reducible refine (if_neg ?_).mpr (hK _ ?_)); (decide); clear hK K) | (split <;> (with_reducible refine hK _ ?_; clear hK K))))
                    all_goals ((with_reducible refine wpQuiet_nil ?_); clear hext; intro w1 hx1; have hb1 := ext_below hx1; clear hx1)
                    go_wp2
                    all_goals
                      go_meet
                      case rel => exact ⟨by rw [HBB.out, decide_eq_true HC.out], hid hb1⟩
                  · have HC := hid hc
                    have hcd : (cv != -1) = false := by
                      have : cv = -1 := by omega
                      simp [this]
                    clear hc hrng
                    go_wp2
                    refine region_ext (by kernel_rfl) (by kernel_rfl) (fun hext => ?_)
                    repeat (any_goals ((with_reducible refine wpQuiet_step (fun K hK => ?_)); go_simp; first | (with_reducible refine hK _ ?_; clear hK K) | ((with_reducible apply Exists.intro); (with_reducible refine ⟨fun _ => ?_, hK _ ?_⟩); ((first | (go_at_call 37; exact ext_call_same _ (HROW.out _ (Ext.below _))) | (go_at_call 38; exact ext_call_same _ (HFAR.out _)) | (go_at_call 17; exact ext_call _ (Nat.le_refl _) (HORD.out _ (Ext.below _))))); clear hK K) | ((with_reducible refine (if_neg ?_).mpr (hK _ ?_)); (decide); clear hK K) | (split <;> (with_reducible refine hK _ ?_; clear hK K))))
                    all_goals ((with_reducible refine wpQuiet_nil ?_); clear hext; intro w1 hx1; have hb1 := ext_below hx1; clear hx1)
                    go_wp2
                    all_goals
                      go_meet
                      case rel => exact ⟨by rw [HBB.out, decide_eq_false (by have := HC.out; omega)], hid hb1⟩
                · have HBB : Hid (bad = false) := hid (by rw [HBA.out, dif_neg hi0, decide_eq_false HN.out]; simp)
                  have hi1 : decide ((0 : Int) < (i : Int)) = false := decide_eq_false (by omega)
                  have hi2 : ¬ (0 : Int) < (i : Int) := by omega
                  go_wp2
                  refine region_ext (by kernel_rfl) (by kernel_rfl) (fun hext => ?_)
                  repeat (any_goals ((with_reducible refine wpQuiet_step (fun K hK => ?_)); go_simp; first | (with_reducible refine hK _ ?_; clear hK K) | ((with_reducible apply Exists.intro); (with_reducible refine ⟨fun _ => ?_, hK _ ?_⟩); ((first | (go_at_call 37; exact ext_call_same _ (HROW.out _ (Ext.below _))) | (go_at_call 38; exact ext_call_same _ (HFAR.out _)) | (go_at_call 17; exact ext_call _ (Nat.le_refl _) (HORD.out _ (Ext.below _))))); clear hK K) | ((with_reducible refine (if_neg ?_).mpr (hK _ ?_)); (decide); clear hK K) | (split <;> (with_reducible refine hK _ ?_; clear hK K))))
                  all_goals ((with_reducible refine wpQuiet_nil ?_); clear hext; intro w1 hx1; have hb1 := ext_below hx1; clear hx1)
                  go_wp2
                  all_goals
                    go_meet
                    case rel => exact ⟨by rw [HBB.out], hid hb1⟩
              · go_wp2
                refine region_ext (by kernel_rfl) (by kernel_rfl) (fun hext => ?_)
                repeat (any_goals ((with_reducible refine wpQuiet_step (fun K hK => ?_)); go_simp; first | (with_reducible refine hK _ ?_; clear hK K) | ((with_reducible apply Exists.intro); (with_reducible refine ⟨fun _ => ?_, hK _ ?_⟩); ((first | (go_at_call 37; exact ext_call_same _ (HROW.out _ (Ext.below _))) | (go_at_call 38; exact ext_call_same _ (HFAR.out _)) | (go_at_call 17; exact ext_call _ (Nat.le_refl _) (HORD.out _ (Ext.below _))))); clear hK K) | ((with_reducible refine (if_neg ?_).mpr (hK _ ?_)); (decide); clear hK K) | (split <;> (with_reducible refine hK _ ?_; clear hK K))))
                all_goals ((with_reducible refine wpQuiet_nil ?_); clear hext; intro w1 hx1; have hb1 := ext_below hx1; clear hx1)
                go_wp2
                all_goals
                  go_meet
                  case rel => exact ⟨by rw [HBA.out]; simp, hid hb1⟩
        case rest =>
          obtain ⟨rfl, HB4⟩ := hcut
          have HB5 := hid (Below.step' HB.out HB4.out)
          cases bad
          · go_wp2_with fail
            go_roundw
            case rel =>
              refine ⟨i + 1, by omega, by go_num, hid (fun j hj => ?_), HB5⟩
              by_cases e : j = i
              · rw [e]; exact HBD.out.symm
              · exact HNO.out j (by omega)
            case measure => simp [intOf]; omega
          · have HD : Hid (E = 5) := hid (by rw [HE.out, if_pos (List.any_eq_true.2 ⟨i, List.mem_range.2 hlt, HBD.out.symm⟩)])
            go_wp2
            go_ret
            exact ⟨ret_int (by rw [HD.out]), HB5.out⟩
      · have HD : Hid (E = 0) := hid (by
          rw [HE.out, if_neg]
          intro h
          obtain ⟨j, hj, e⟩ := List.any_eq_true.1 h
          rw [HNO.out j (by have := List.mem_range.1 hj; omega)] at e
          cases e)
        have t1 : ((i : Int) < (M.length : Int)) = False := eq_false (by omega)
        go_wp2
        go_ret
        exact ⟨ret_int (by rw [HD.out]), HB.out⟩
end Go.Proofs.YtldlmkfigjicgaaGreatDoor
/- viewref.Query, viewref.Based. -/
namespace Go.Proofs.YtldlmkfigjicgaaGreatDoor
set_option linter.unusedVariables false
set_option linter.unusedSimpArgs false
open Go.ChangeShapes Go.WideShapes Go.ChangeAt Go.RowKit

set_option maxHeartbeats 1000000 in
set_option maxRecDepth 100000 in
theorem Rquery_any (L : List SR) (A : Option Addr) (c : Nat) (w : World) (hr : RowS w w.heap.size A L) (hl : L.length ≤ 9223372036854775807) :
    Calls Tryz.prog 25 #[.slice A L.length c] w fun e w' => e = .returned (.int .i64 (queryE (sts L))) ∧ Below w.heap.size w w' := by
  have HE := hid (show queryE (sts L) = if L.length = 0 then 1 else if 8 < L.length then 2 else if widsL (sts L) [] = none then 1 else 0 by unfold queryE; rw [List.length_map])
  have HW := hid (fun h : L.length ≤ 8 => Rwidths_any L A c w hr h)
  clear hr
  obtain ⟨E, hE⟩ : ∃ q, q = queryE (sts L) := ⟨_, rfl⟩
  rw [← hE] at HE ⊢
  clear hE
  go_enter Tryz.func25, Tryz.ntmps25
  by_cases h0 : L.length = 0
  · have t1 : ((L.length : Int) == 0) = true := by simp [h0]
    have HD := hid (show E = 1 by rw [HE.out, if_pos h0])
    clear h0
    go_wp2_with fail
    go_ret
    exact ⟨ret_int HD.out.symm, Below.refl _ _⟩
  have t1 : ((L.length : Int) == 0) = false := by simpa using h0
  by_cases h8 : 8 < L.length
  · have t2 : ((8 : Int) < (L.length : Int)) = True := eq_true (by omega)
    have HD := hid (show E = 2 by rw [HE.out, if_neg h0, if_pos h8])
    clear h0 h8
    go_wp2_with fail
    go_ret
    exact ⟨ret_int HD.out.symm, Below.refl _ _⟩
  have t2 : ((8 : Int) < (L.length : Int)) = False := eq_false (by omega)
  have HD := hid (show E = if widsL (sts L) [] = none then 1 else 0 by rw [HE.out, if_neg h0, if_neg h8])
  have HC := hid (HW.out (by omega))
  clear h0 h8 HW HE
  go_wp2_with fail
  -- STOP-a
  refine HC.out.mono ?_
  rintro e w1 ⟨hb1, (⟨hn, rfl⟩ | ⟨V, v, hn, rfl, -⟩)⟩
  · have HB := hid hb1
    have HF := hid (show E = 1 by rw [HD.out, if_pos hn])
    clear hb1 hn HC
    go_wp2_with fail
    go_ret
    exact ⟨ret_int HF.out.symm, HB.out⟩
  · have HB := hid hb1
    have HF := hid (show E = 0 by rw [HD.out, hn, if_neg (by simp)])
    clear hb1 hn HC
    go_wp2_with fail
    go_ret
    exact ⟨ret_int HF.out.symm, HB.out⟩
def wideL (M : List IR) : Bool := (its M).any wideB
set_option maxHeartbeats 4000000 in
set_option maxRecDepth 100000 in
theorem Rbased_any (L : List SR) (M1 M2 : List IR) (A0 A1 A2 : Option Addr) (c0 c1 c2 : Nat) (w : World) (h0 : RowS w w.heap.size A0 L) (l0 : L.length ≤ 9223372036854775807) (r1 : RowI w w.heap.size A1 M1) (l1 : M1.length ≤ 9223372036854775807) (r2 : RowI w w.heap.size A2 M2) (l2 : M2.length ≤ 9223372036854775807) :
    Calls Tryz.prog 56 #[.slice A0 L.length c0, .slice A1 M1.length c1, .slice A2 M2.length c2] w fun e w' => e = .returned (.int .i64 (basesE (sts L) (its M1) (its M2))) ∧ Below w.heap.size w w' := by
  have HQ := hid (Rquery_any L A0 c0 w h0 l0)
  have HS1 := hid (fun w1 (hb : Below w.heap.size w w1) => Rset_any M1 A1 c1 w1 (r1.step hb) l1)
  have HS2 := hid (fun w1 (hb : Below w.heap.size w w1) => Rset_any M2 A2 c2 w1 (r2.step hb) l2)
  have HR1 := hid r1
  have HR2 := hid r2
  have HE := hid (show basesE (sts L) (its M1) (its M2) = if queryE (sts L) ≠ 0 then queryE (sts L) else if setI (its M1) ≠ 0 then setI (its M1) else if setI (its M2) ≠ 0 then setI (its M2) else if (wideL M1 || wideL M2) = true then 5 else 0 by
    unfold basesE wideL; rw [List.any_append])
  obtain ⟨E, hE⟩ : ∃ q, q = basesE (sts L) (its M1) (its M2) := ⟨_, rfl⟩
  rw [← hE] at HE ⊢
  obtain ⟨EQ, hEQ⟩ : ∃ q, q = queryE (sts L) := ⟨_, rfl⟩
  obtain ⟨S1, hS1⟩ : ∃ q, q = setI (its M1) := ⟨_, rfl⟩
  obtain ⟨S2, hS2⟩ : ∃ q, q = setI (its M2) := ⟨_, rfl⟩
  rw [← hEQ, ← hS1, ← hS2] at HE
  rw [← hEQ] at HQ
  rw [← hS1] at HS1
  rw [← hS2] at HS2
  clear hE hEQ hS1 hS2 h0 r1 r2
  go_enter Tryz.func56, Tryz.ntmps56
  go_wp2_with fail
  refine HQ.out.mono ?_
  rintro e w1 ⟨rfl, hb1⟩
  have HB1 := hid hb1
  clear hb1 HQ
  by_cases q0 : EQ = 0
  rotate_left
  · have t1 : (EQ != 0) = true := by simpa using q0
    have HD := hid (show E = EQ by rw [HE.out, if_pos q0])
    clear q0
    go_wp2_with fail
    go_ret
    exact ⟨ret_int HD.out.symm, HB1.out⟩
  subst q0
  go_wp2_with fail
  -- STOP-a
  refine (HS1.out w1 HB1.out).mono ?_
  rintro e w2 ⟨rfl, hb2⟩
  have HB2 := hid (Below.step' HB1.out hb2)
  clear hb2 HS1 HB1
  by_cases q1 : S1 = 0
  rotate_left
  · have t1 : (S1 != 0) = true := by simpa using q1
    have HD := hid (show E = S1 by rw [HE.out, if_neg (by simp), if_pos q1])
    clear q1
    go_wp2_with fail
    go_ret
    exact ⟨ret_int HD.out.symm, HB2.out⟩
  subst q1
  go_wp2_with fail
  refine (HS2.out w2 HB2.out).mono ?_
  rintro e w3 ⟨rfl, hb3⟩
  have HB3 := hid (Below.step' HB2.out hb3)
  clear hb3 HS2 HB2
  by_cases q2 : S2 = 0
  rotate_left
  · have t1 : (S2 != 0) = true := by simpa using q2
    have HD := hid (show E = S2 by rw [HE.out, if_neg (by simp), if_neg (by simp), if_pos q2])
    clear q2
    go_wp2_with fail
    go_ret
    exact ⟨ret_int HD.out.symm, HB3.out⟩
  subst q2
  have HD := hid (show E = if (wideL M1 || wideL M2) = true then 5 else 0 by rw [HE.out, if_neg (by simp), if_neg (by simp), if_neg (by simp)])
  obtain ⟨W, hW⟩ : ∃ W : World, W = w3.alloc (.cells #[.slice A1 M1.length c1, .slice A2 M2.length c2] 22) := ⟨_, rfl⟩
  have HBW := hid (show Below w3.heap.size w3 W by rw [hW]; exact alloc_below (Below.refl _ _) _)
  have HXB := hid (show Blk W w3.heap.size #[.slice A1 M1.length c1, .slice A2 M2.length c2] 22 by rw [hW]; exact Blk.new _ _ _)
  go_wp2_with fail
  -- STOP-b
  rw [← hW]
  clear hW HE
  have HWW := hid (Below.step' HB3.out HBW.out)
  go_loopw [32] (fun s32 wr => ∃ i : Nat, i ≤ 2 ∧ s32 = .int .i64 i ∧ Hid (1 ≤ i → wideL M1 = false) ∧ Hid (2 ≤ i → wideL M2 = false) ∧ wr = W) (fun s32 _ => 2 - (intOf s32).toNat)
  case atStart => exact ⟨0, by omega, rfl, hid (fun h => by omega), hid (fun h => by omega), rfl⟩
  case round =>
    obtain ⟨i, hi, rfl, HN1, HN2, rfl⟩ := hrel
    by_cases hlt : i < 2
    · have t1 : ((i : Int) < 2) = True := eq_true (by omega)
      obtain ⟨Mi, Ai, ci, hrow, hlen, hcell, hsel⟩ : ∃ (Mi : List IR) (Ai : Option Addr) (ci : Nat), RowI w w.heap.size Ai Mi ∧ Mi.length ≤ 9223372036854775807 ∧ wr.cell? ⟨w3.heap.size, i, none⟩ = some (.slice Ai Mi.length ci) ∧ (wideL Mi = true → (wideL M1 || wideL M2) = true) ∧ (wideL Mi = false → (1 ≤ i + 1 → wideL M1 = false) ∧ (2 ≤ i + 1 → wideL M2 = false)) := by
        rcases (by omega : i = 0 ∨ i = 1) with rfl | rfl
        · exact ⟨M1, A1, c1, HR1.out, l1, by rw [HXB.out.cells.1]; rfl, fun h => by rw [h]; rfl, fun h => ⟨fun _ => h, fun h2 => by omega⟩⟩
        · exact ⟨M2, A2, c2, HR2.out, l2, by rw [HXB.out.cells.1]; rfl, fun h => by rw [h, Bool.or_true], fun h => ⟨fun _ => HN1.out (by omega), fun _ => h⟩⟩
      have HSEL := hid hsel
      have HRI := hid (hrow.step HWW.out)
      clear hsel hrow HN1 HN2
      go_wp2_with fail
      -- STOP-c
      go_loopw [12] (fun s12 w' => ∃ j : Nat, j ≤ Mi.length ∧ s12 = .int .i64 j ∧ Hid (∀ q, (hq : q < Mi.length) → q < j → Mi[q].row.length = 4) ∧ w' = wr) (fun s12 _ => Mi.length - (intOf s12).toNat)
      case atStart => exact ⟨0, by omega, rfl, hid (fun q _ h => by omega), rfl⟩
      case round =>
        obtain ⟨j, hj, rfl, HNO, rfl⟩ := hrel
        by_cases hjl : j < Mi.length
        · have t2 : ((j : Int) < (Mi.length : Int)) = True := eq_true (by omega)
          obtain ⟨b, off, rfl, hb, g0, g1⟩ := HRI.out.1.it hjl
          have HWD := hid (fun h : Mi[j].row.length ≠ 4 => show wideL Mi = true from List.any_eq_true.2 ⟨Mi[j].it, List.mem_map.2 ⟨_, List.getElem_mem hjl, rfl⟩, by unfold wideB; simpa using h⟩)
          have HRL := hid (show ∃ n, n = Mi[j].row.length from ⟨_, rfl⟩)
          obtain ⟨n, hn⟩ := HRL.out
          have HNN := hid hn
          rw [← hn] at HWD
          rw [← hn] at g0
          clear hn HRL
          by_cases q4 : n = 4
          · have t3 : ((n : Int) != 4) = false := by simp [q4]
            have HN4 := hid (show Mi[j].row.length = 4 by rw [← HNN.out]; exact q4)
            clear q4
            generalize Mi[j].A = rA at *
            generalize Mi[j].k = rk at *
            go_wp2_with fail
            go_roundw
            case rel =>
              refine ⟨j + 1, by omega, by go_num, hid (fun q hq h => ?_), by first | rfl | trivial⟩
              by_cases e : q = j
              · subst e; exact HN4.out
              · exact HNO.out q hq (by omega)
            case measure => simp [intOf]; omega
          · have t3 : ((n : Int) != 4) = true := by simp only [bne_iff_ne, ne_eq]; omega
            have HF := hid (show E = 5 by rw [HD.out, if_pos (HSEL.out.1 (HWD.out q4))])
            clear q4
            generalize Mi[j].A = rA at *
            generalize Mi[j].k = rk at *
            go_wp2_with fail
            -- STOP-d
            go_ret
            exact ⟨ret_int HF.out.symm, HWW.out⟩
        · have t2 : ((j : Int) < (Mi.length : Int)) = False := eq_false (by omega)
          have HWN := hid (show wideL Mi = false from List.any_eq_false.2 fun x hx => by
            obtain ⟨y, hy, rfl⟩ := List.mem_map.1 hx
            obtain ⟨q, hq, rfl⟩ := List.mem_iff_getElem.1 hy
            have := HNO.out q hq (by omega)
            unfold wideB
            simp [IR.it, this])
          go_wp2_with fail
          -- STOP-e
          go_roundw
          case rel => exact ⟨i + 1, by omega, by go_num, hid (HSEL.out.2 HWN.out).1, hid (HSEL.out.2 HWN.out).2, by first | rfl | trivial⟩
          case measure => simp [intOf]; omega
    · have t1 : ((i : Int) < 2) = False := eq_false (by omega)
      have HF := hid (show E = 0 by rw [HD.out, HN1.out (by omega), HN2.out (by omega)]; rfl)
      go_wp2_with fail
      go_ret
      exact ⟨ret_int HF.out.symm, HWW.out⟩
end Go.Proofs.YtldlmkfigjicgaaGreatDoor
/- Contracts: slices.Index, slices.Contains at Dot; dot.Has, viewref.Has. -/
namespace Go.Proofs.YtldlmkfigjicgaaGreatDoor
set_option linter.unusedVariables false
open Go.ChangeShapes Go.WideShapes Go.ChangeAt Go.RowKit

abbrev dcells (l : List (Int × Int)) : List Value := l.flatMap fun d => [.int .i64 d.1, .int .i64 d.2]

theorem dcells_get : ∀ (l : List (Int × Int)) (k : Nat) (h : k < l.length), (dcells l)[k * 2]? = some (.int .i64 l[k].1) ∧ (dcells l)[k * 2 + 1]? = some (.int .i64 l[k].2)
  | d :: l, 0, _ => by simp
  | d :: l, k + 1, h => by
    have := dcells_get l k (by simpa using h)
    simpa [Nat.add_mul, List.flatMap_cons, List.getElem?_append] using this

end Go.Proofs.YtldlmkfigjicgaaGreatDoor
/- Contracts of dot.Has and viewref.Has. -/
namespace Go.Proofs.YtldlmkfigjicgaaGreatDoor
set_option linter.unusedVariables false
open Go.ChangeShapes Go.WideShapes Go.ChangeAt Go.RowKit

structure Ctx where
  c0 : Int
  c1 : Int
  c2 : Int
  c3 : Int
  cloud : List (Int × Int)

def Ctx.at_ (c : Ctx) (n : Int) : Int := if n = 0 then c.c0 else if n = 1 then c.c1 else if n = 2 then c.c2 else c.c3
def Ctx.has (c : Ctx) (d : Int × Int) : Prop := (0 ≤ d.1 ∧ d.1 < 4 ∧ 1 ≤ d.2 ∧ d.2 ≤ c.at_ d.1) ∨ d ∈ c.cloud
instance (c : Ctx) (d : Int × Int) : Decidable (c.has d) := by unfold Ctx.has; infer_instance
end Go.Proofs.YtldlmkfigjicgaaGreatDoor
/- Contract of dot.Check. -/
namespace Go.Proofs.YtldlmkfigjicgaaGreatDoor
set_option linter.unusedVariables false
open Go.ChangeShapes Go.WideShapes Go.ChangeAt Go.RowKit

def before (a b : Int × Int) : Bool := decide (a.1 < b.1) || (decide (a.1 = b.1) && decide (a.2 < b.2))
end Go.Proofs.YtldlmkfigjicgaaGreatDoor
/- The sort over a row of dots that the call owns: the row holds a permutation, in order; all else stands. -/
namespace Go.Proofs.YtldlmkfigjicgaaGreatDoor
set_option linter.unusedVariables false
open Go.ChangeShapes Go.WideShapes Go.ChangeAt Go.RowKit
open Go.Shelf Go.Lib
open Go.Sort (grow SWO PermIn SortedIn alloc_eq_grow grow_grow drew_grow HoldsK flatK putRow putCells mapBlock Holds)

theorem take_eq_get {cur : Array Value} {n : Nat} {xs : List Value} (h : cur.toList.take n = xs) {j : Nat} (hj : j < xs.length) : cur[j]? = xs[j]? := by
  subst h
  rw [List.getElem?_take_of_lt (by simp at hj; omega)]
  simp

end Go.Proofs.YtldlmkfigjicgaaGreatDoor
/- slices.Clone at Dot. -/
namespace Go.Proofs.YtldlmkfigjicgaaGreatDoor
set_option linter.unusedVariables false
open Go.ChangeShapes Go.WideShapes Go.ChangeAt Go.RowKit

theorem Row.news {w : World} {B : Nat} {ad : Addr} {xs : List Value} (h : Row w B (some ad) xs) : ∀ j u, xs[j]? = some u → w.cell? (ad.add j) = some u := by
  intro j u hu
  rcases h with h | ⟨b, off, h1, _, h3⟩
  · subst h; simp at hu
  · injection h1 with h1
    subst h1
    rw [add_none]
    exact h3 j u hu

end Go.Proofs.YtldlmkfigjicgaaGreatDoor
/- slices.Compact at Dot, over a row that the call owns. -/
namespace Go.Proofs.YtldlmkfigjicgaaGreatDoor
set_option linter.unusedVariables false
open Go.ChangeShapes Go.WideShapes Go.ChangeAt Go.RowKit

/-- Runs of equal neighbours, each once. -/
def cpt : List (Int × Int) → List (Int × Int)
  | [] => []
  | [a] => [a]
  | a :: b :: r => if a = b then cpt (b :: r) else a :: cpt (b :: r)

theorem cpt_snoc (x : Int × Int) : ∀ l : List (Int × Int), cpt (l ++ [x]) = if l.getLast? = some x then cpt l else cpt l ++ [x]
  | [] => by simp [cpt]
  | [a] => by
    by_cases h : a = x <;> simp [cpt, h]
  | a :: b :: r => by
    have ih := cpt_snoc x (b :: r)
    simp only [List.cons_append] at ih ⊢
    simp only [cpt, List.getLast?_cons_cons]
    rw [ih]
    by_cases h : a = b <;> by_cases h2 : (b :: r).getLast? = some x <;> simp [h, h2]

theorem cpt_same : ∀ l : List (Int × Int), (∀ j (h : j + 1 < l.length), l[j + 1] ≠ l[j]) → cpt l = l
  | [], _ => rfl
  | [a], _ => rfl
  | a :: b :: r, h => by
    have h0 := h 0 (by simp)
    simp at h0
    rw [cpt, if_neg (fun e => h0 e.symm), cpt_same (b :: r) (fun j hj => by have := h (j + 1) (by simp at hj ⊢; omega); simpa using this)]

theorem own_dot {w : World} {B n cap g : Nat} {T : TypeId} {l : List (Int × Int)} (h : w.ownsRow B T 2 (.slice (some ⟨g, 0, none⟩) n cap) n (dcells l)) {k : Nat} (hk : k < l.length) :
    w.cell? ⟨g, k * 2, none⟩ = some (.int .i64 l[k].1) ∧ w.cell? ⟨g, k * 2 + 1, none⟩ = some (.int .i64 l[k].2) := by
  obtain ⟨g0, g1⟩ := dcells_get l k hk
  have h0 := h.cells (g := g) rfl _ _ g0
  have h1 := h.cells (g := g) rfl _ _ g1
  rw [add_none, Nat.zero_add] at h0 h1
  exact ⟨h0, h1⟩

/-- Within the inner loop: of the first m places the runs stand in the first kk; from m - 1 on all is as it was. -/
structure CInv (l : List (Int × Int)) (m kk : Nat) (ds : List (Int × Int)) : Prop where
  len : ds.length = l.length
  lt : kk + 1 ≤ m
  low : ds.take kk = cpt (l.take m)
  high : ∀ j (h : j < l.length) (h' : j < ds.length), m ≤ j + 1 → ds[j] = l[j]

theorem CInv.skip {l ds : List (Int × Int)} {m kk : Nat} (h : CInv l m kk ds) (hm : m < l.length) (hm0 : 0 < m) (he : l[m] = l[m - 1]) : CInv l (m + 1) kk ds := by
  refine ⟨h.len, by have := h.lt; omega, ?_, fun j hj hj' hm' => h.high j hj hj' (by omega)⟩
  rw [List.take_succ_eq_append_getElem hm, cpt_snoc, if_pos, h.low]
  rw [List.getLast?_eq_getElem?, List.length_take, Nat.min_eq_left (by omega), List.getElem?_take_of_lt (by omega), List.getElem?_eq_getElem (by omega), he]

theorem CInv.keep {l ds : List (Int × Int)} {m kk : Nat} (h : CInv l m kk ds) (hm : m < l.length) (hm0 : 0 < m) (he : l[m] ≠ l[m - 1]) : CInv l (m + 1) (kk + 1) (ds.set kk l[m]) := by
  have hlt := h.lt
  have hlen := h.len
  refine ⟨by simpa using hlen, by omega, ?_, fun j hj hj' hm' => ?_⟩
  · rw [List.take_succ_eq_append_getElem hm, cpt_snoc, if_neg, ← h.low, List.take_succ_eq_append_getElem (by simp; omega)]
    · simp [List.take_set_of_le]
    · rw [List.getLast?_eq_getElem?, List.length_take, Nat.min_eq_left (by omega), List.getElem?_take_of_lt (by omega), List.getElem?_eq_getElem (by omega)]
      intro e
      injection e with e
      exact he e.symm
  · rw [List.getElem_set_ne (by omega)]
    exact h.high j hj (by simpa using hj') (by omega)

theorem CInv.start {l : List (Int × Int)} {k : Nat} (hk : k < l.length) (hk0 : 0 < k) (hall : ∀ j (h : j + 1 < l.length), j + 1 < k → l[j + 1] ≠ l[j]) (he : l[k] = l[k - 1]) : CInv l (k + 1) k l := by
  refine ⟨rfl, Nat.le_refl _, ?_, fun _ _ _ _ => rfl⟩
  rw [List.take_succ_eq_append_getElem hk, cpt_snoc, if_pos]
  · rw [cpt_same]
    intro j hj
    simp at hj
    simp only [List.getElem_take]
    exact hall j (by omega) (by omega)
  · rw [List.getLast?_eq_getElem?, List.length_take, Nat.min_eq_left (by omega), List.getElem?_take_of_lt (by omega), List.getElem?_eq_getElem (by omega), he]
end Go.Proofs.YtldlmkfigjicgaaGreatDoor
/- slices.Compact at Dot over a row that the call owns: the contract. -/
namespace Go.Proofs.YtldlmkfigjicgaaGreatDoor
set_option linter.unusedVariables false
open Go.ChangeShapes Go.WideShapes Go.ChangeAt Go.RowKit

theorem CInv.cell {l ds : List (Int × Int)} {m kk B g n cap : Nat} {w : World} {T : TypeId} (hI : CInv l m kk ds) (how : w.ownsRow B T 2 (.slice (some ⟨g, 0, none⟩) n cap) n (dcells ds)) (j a : Nat) (hj : j < l.length) (hm : m ≤ j + 1) (ha : a = j * 2) :
    ∃ r : Int × Int, l[j] = r ∧ w.cell? ⟨g, a, none⟩ = some (.int .i64 r.1) ∧ w.cell? ⟨g, a + 1, none⟩ = some (.int .i64 r.2) := by
  subst ha
  have hj2 : j < ds.length := by rw [hI.len]; exact hj
  obtain ⟨m0, m1⟩ := own_dot how hj2
  have e := hI.high j hj hj2 hm
  exact ⟨l[j], rfl, by rw [m0, e], by rw [m1, e]⟩

end Go.Proofs.YtldlmkfigjicgaaGreatDoor
/- dot.packed: the walk. -/
namespace Go.Proofs.YtldlmkfigjicgaaGreatDoor
set_option linter.unusedVariables false
open Go.ChangeShapes Go.WideShapes Go.ChangeAt Go.RowKit

theorem Row.of_own {w : World} {B n c : Nat} {T : TypeId} {A : Option Addr} {xs : List Value} (h : w.ownsRow B T 2 (.slice A n c) n xs) : Row w w.heap.size A xs := by
  rcases h.2 with ⟨h', h0⟩ | ⟨g, cap, cur, h', hb, hg, hnc, hcm, hcs, htake⟩
  · have : xs = [] := List.eq_nil_of_length_eq_zero (by rw [h.1, h0])
    exact .inl this
  · injection h' with h1 h2 h3
    subst h1
    have hlt : g < w.heap.size := by
      rcases Nat.lt_or_ge g w.heap.size with h | h
      · exact h
      · rw [Array.getElem?_eq_none h] at hg; cases hg
    refine .inr ⟨g, 0, rfl, hlt, fun j u hu => ?_⟩
    have := h.cells (g := g) rfl j u hu
    rwa [add_none] at this

end Go.Proofs.YtldlmkfigjicgaaGreatDoor
/- dot.Less and its predicate. -/
namespace Go.Proofs.YtldlmkfigjicgaaGreatDoor
set_option linter.unusedVariables false
open Go.ChangeShapes Go.WideShapes Go.ChangeAt Go.RowKit

abbrev cbox (c : Ctx) (A : Option Addr) (k : Nat) : Array Value := #[.int .i64 c.c0, .int .i64 c.c1, .int .i64 c.c2, .int .i64 c.c3, .slice A c.cloud.length k]

end Go.Proofs.YtldlmkfigjicgaaGreatDoor
/- Rows of things of more than one cell: contexts in a list, cells of a table. No program in sight. -/
namespace Go.Proofs.YtldlmkfigjicgaaGreatDoor
set_option linter.unusedVariables false
open Go.RowKit

/-- A context, and where its cloud lies. -/
structure CR where
  c : Ctx
  A : Option Addr
  k : Nat
abbrev CR.cells (x : CR) : List Value := [.int .i64 x.c.c0, .int .i64 x.c.c1, .int .i64 x.c.c2, .int .i64 x.c.c3, .slice x.A x.c.cloud.length x.k]
abbrev ccells (L : List CR) : List Value := L.flatMap CR.cells
theorem CR.len (x : CR) : x.cells.length = 5 := rfl
/-- A list of contexts lies at A, their clouds too. -/
def RowC (w : World) (B : Nat) (A : Option Addr) (L : List CR) : Prop := Row w B A (ccells L) ∧ ∀ x ∈ L, Row w B x.A (dcells x.c.cloud) ∧ x.c.cloud.length ≤ 9223372036854775807
theorem RowC.below {w w' : World} {B C : Nat} {A : Option Addr} {L : List CR} (h : RowC w B A L) (hb : Below C w w') (hB : B ≤ C) : RowC w' B A L :=
  ⟨h.1.below hb hB, fun x hx => ⟨(h.2 x hx).1.below hb hB, (h.2 x hx).2⟩⟩
theorem RowC.more {w : World} {B C : Nat} {A : Option Addr} {L : List CR} (h : RowC w B A L) (hB : B ≤ C) : RowC w C A L := ⟨h.1.more hB, fun x hx => ⟨(h.2 x hx).1.more hB, (h.2 x hx).2⟩⟩
theorem RowC.step {w w' : World} {A : Option Addr} {L : List CR} (h : RowC w w.heap.size A L) (hb : Below w.heap.size w w') : RowC w' w'.heap.size A L := (h.below hb (Nat.le_refl _)).more hb.size
theorem RowC.at_ {w : World} {B : Nat} {A : Option Addr} {L : List CR} (h : RowC w B A L) {k : Nat} (hk : k < L.length) :
    ∃ b off, A = some ⟨b, off, none⟩ ∧ b < B ∧ w.cell? ⟨b, off + k * 5, none⟩ = some (.int .i64 L[k].c.c0) ∧ w.cell? ⟨b, off + k * 5 + 1, none⟩ = some (.int .i64 L[k].c.c1) ∧ w.cell? ⟨b, off + k * 5 + 2, none⟩ = some (.int .i64 L[k].c.c2) ∧
      w.cell? ⟨b, off + k * 5 + 3, none⟩ = some (.int .i64 L[k].c.c3) ∧ w.cell? ⟨b, off + k * 5 + 4, none⟩ = some (.slice L[k].A L[k].c.cloud.length L[k].k) ∧ Row w B L[k].A (dcells L[k].c.cloud) ∧ L[k].c.cloud.length ≤ 9223372036854775807 := by
  obtain ⟨b, off, h1, h2, h3⟩ := Row.flat CR.len h.1 (by omega) hk
  exact ⟨b, off, h1, h2, h3 0 _ rfl, h3 1 _ rfl, h3 2 _ rfl, h3 3 _ rfl, h3 4 _ rfl, (h.2 _ (List.getElem_mem _)).1, (h.2 _ (List.getElem_mem _)).2⟩
/-- A cell of a table. -/
structure Cel where
  d : Int × Int
  key : Int
  col : Int
  val : Int
instance : DecidableEq Cel := fun a b => decidable_of_iff (a.d = b.d ∧ a.key = b.key ∧ a.col = b.col ∧ a.val = b.val) (by cases a; cases b; simp)
abbrev Cel.cells (x : Cel) : List Value := [.int .i64 x.d.1, .int .i64 x.d.2, .int .i64 x.key, .int .i64 x.col, .int .i64 x.val]
theorem Cel.len (x : Cel) : x.cells.length = 5 := rfl
end Go.Proofs.YtldlmkfigjicgaaGreatDoor
/-
  DERIVED: THE SHELF's CONTRACTS AT THIS DUMP, IN PLAIN WORDS (tools/lay-plain.mjs out of 'YtldlmkfigjicgaaGreatDoorShelfI.lean', which tools/lay-shelf.mjs wrote): THE SAME DECLARATIONS UNDER THE SAME NAMES: 'import', 'namespace', 'open', 'def', 'theorem' AND NOTHING ELSE: no command of the shelf's: FOR A HAND-IN. Each laying: the table of numbers ('.._ren') and one theorem, a field a fact of the dump's own or the kernel's comparison; each contract: ONE APPLICATION.
-/
namespace Go.Proofs
open Go.Shelf
def Tryz.lays189_ren : Go.Shelf.Ren := ⟨fun | 189 => 79 | 125 => 102 | 257 => 101 | 128 => 128 | 129 => 129 | 294 => 119 | 295 => 120 | 296 => 121 | 297 => 122 | 298 => 123 | 299 => 124 | 216 => 125 | 300 => 126 | 301 => 127 | 328 => 148 | 329 => 149 | 330 => 150 | 331 => 151 | 332 => 152 | 215 => 103 | 343 => 167 | n => n, fun | 28 => 30 | 3 => 3 | 46 => 140 | 0 => 0 | 51 => 163 | 53 => 165 | 4 => 4 | 183 => 156 | 182 => 155 | 131 => 160 | 5 => 5 | 9 => 9 | 218 => 177 | 222 => 181 | 228 => 191 | 229 => 192 | n => n, fun | n => n⟩
theorem Tryz.lays189 : Go.Proofs.Lays.n189 Tryz.prog Tryz.lays189_ren := {
  mixed := by kernel_rfl
  f125 := Tryz.func102.trans (congrArg some (by kernel_rfl))
  f128 := Tryz.func128.trans (congrArg some (by kernel_rfl))
  f129 := Tryz.func129.trans (congrArg some (by kernel_rfl))
  f189 := Tryz.func79.trans (congrArg some (by kernel_rfl))
  f215 := Tryz.func103.trans (congrArg some (by kernel_rfl))
  f216 := Tryz.func125.trans (congrArg some (by kernel_rfl))
  f257 := Tryz.func101.trans (congrArg some (by kernel_rfl))
  f294 := Tryz.func119.trans (congrArg some (by kernel_rfl))
  f295 := Tryz.func120.trans (congrArg some (by kernel_rfl))
  f296 := Tryz.func121.trans (congrArg some (by kernel_rfl))
  f297 := Tryz.func122.trans (congrArg some (by kernel_rfl))
  f298 := Tryz.func123.trans (congrArg some (by kernel_rfl))
  f299 := Tryz.func124.trans (congrArg some (by kernel_rfl))
  f300 := Tryz.func126.trans (congrArg some (by kernel_rfl))
  f301 := Tryz.func127.trans (congrArg some (by kernel_rfl))
  f328 := Tryz.func148.trans (congrArg some (by kernel_rfl))
  f329 := Tryz.func149.trans (congrArg some (by kernel_rfl))
  f330 := Tryz.func150.trans (congrArg some (by kernel_rfl))
  f331 := Tryz.func151.trans (congrArg some (by kernel_rfl))
  f332 := Tryz.func152.trans (congrArg some (by kernel_rfl))
  f343 := Tryz.func167.trans (congrArg some (by kernel_rfl))
  t0 := Tryz.underlying0
  a0 := Tryz.isAgg0
  z0 := Tryz.sizeOf0
  v0 := Tryz.zeroValue0
  t3 := Tryz.underlying3
  a3 := Tryz.isAgg3
  z3 := Tryz.sizeOf3
  v3 := Tryz.zeroValue3
  t4 := Tryz.underlying4
  a4 := Tryz.isAgg4
  z4 := Tryz.sizeOf4
  v4 := Tryz.zeroValue4
  t5 := Tryz.underlying5
  a5 := Tryz.isAgg5
  z5 := Tryz.sizeOf5
  v5 := Tryz.zeroValue5
  t9 := Tryz.underlying9
  a9 := Tryz.isAgg9
  z9 := Tryz.sizeOf9
  v9 := Tryz.zeroValue9
  t28 := Tryz.underlying30
  a28 := Tryz.isAgg30
  z28 := Tryz.sizeOf30
  v28 := Tryz.zeroValue30
  t46 := Tryz.underlying140
  a46 := Tryz.isAgg140
  z46 := Tryz.sizeOf140
  v46 := Tryz.zeroValue140
  t51 := Tryz.underlying163
  a51 := Tryz.isAgg163
  z51 := Tryz.sizeOf163
  v51 := Tryz.zeroValue163
  t53 := Tryz.underlying165
  a53 := Tryz.isAgg165
  z53 := Tryz.sizeOf165
  v53 := Tryz.zeroValue165
  t131 := Tryz.underlying160
  a131 := Tryz.isAgg160
  z131 := Tryz.sizeOf160
  v131 := Tryz.zeroValue160
  t182 := Tryz.underlying155
  a182 := Tryz.isAgg155
  z182 := Tryz.sizeOf155
  v182 := Tryz.zeroValue155
  t183 := Tryz.underlying156
  a183 := Tryz.isAgg156
  z183 := Tryz.sizeOf156
  v183 := Tryz.zeroValue156
  t218 := Tryz.underlying177
  a218 := Tryz.isAgg177
  z218 := Tryz.sizeOf177
  v218 := Tryz.zeroValue177
  t222 := Tryz.underlying181
  a222 := Tryz.isAgg181
  z222 := Tryz.sizeOf181
  v222 := Tryz.zeroValue181
  t228 := Tryz.underlying191
  a228 := Tryz.isAgg191
  z228 := Tryz.sizeOf191
  v228 := Tryz.zeroValue191
  t229 := Tryz.underlying192
  a229 := Tryz.isAgg192
  z229 := Tryz.sizeOf192
  v229 := Tryz.zeroValue192 }
open Go.Sort Go.RowKit in
theorem Tryz.slices_Sort_int (blk off cap : Nat) (zs : List Int) (w : World) (hH : Holds (Value.int .i64) w blk off zs.toArray) (hblk : blk < w.heap.size) (hsz : zs.length < 4611686018427387904) :
    Calls Tryz.prog 79 #[.slice (some ⟨blk, off, none⟩) zs.length cap] w fun e w' =>
      e = .returned (.tuple #[]) ∧ ∃ n os, w' = grow (putRow (Value.int .i64) (Sort.ahead w n) blk off (zs.mergeSort fun x y => decide (x ≤ y)).toArray) os := Any.slices_Sort_int Tryz.lays189 blk off cap zs w hH hblk hsz
open Go.RowKit Go.Sort in
/-- .. and plain. (LAID: no walk: one application.) -/
theorem Tryz.slices_Sort_int_none (p : Option Addr) (cap : Nat) (w : World) :
    Calls Tryz.prog 79 #[.slice p 0 cap] w fun e w' => e = .returned (.tuple #[]) ∧ w' = w := Any.slices_Sort_int_none Tryz.lays189 p cap w
end Go.Proofs
/- Lists of ints in memory; slices.Equal, Sort, Compact at int over rows. -/
namespace Go.Proofs.YtldlmkfigjicgaaGreatDoor
set_option linter.unusedVariables false
open Go.ChangeShapes Go.WideShapes Go.ChangeAt Go.RowKit Go.Sort

abbrev icells (l : List Int) : List Value := l.map (Value.int .i64)
theorem icells_one (l : List Int) : ∀ u ∈ icells l, u.oneCell' = true := by
  intro u hu
  obtain ⟨x, -, rfl⟩ := List.mem_map.1 hu
  rfl
theorem Row.int {w : World} {B : Nat} {A : Option Addr} {l : List Int} (h : Row w B A (icells l)) {k : Nat} (hk : k < l.length) :
    ∃ b off, A = some ⟨b, off, none⟩ ∧ b < B ∧ w.cell? ⟨b, off + k, none⟩ = some (.int .i64 l[k]) := by
  obtain ⟨b, off, h1, h2, h3⟩ := h.at_ (show 0 < (icells l).length by simp; omega)
  exact ⟨b, off, h1, h2, h3 k _ (by simp [hk])⟩
theorem info_int : (Tryz.prog.info? 3).map (fun i => (i.zero, i.size, i.bytes)) = some (some (.int .i64 0), 1, 8) := by kernel_rfl
theorem holdsI {w : World} {g : Nat} {l : List Int} {cur : Array Value} {T : TypeId} (hg : w.heap[g]? = some (.cells cur T (0, 0))) (hc : cur.toList.take l.length = icells l) : Holds (Value.int .i64) w g 0 l.toArray := by
  intro j hj
  have hj' : j < l.length := by simpa using hj
  have e := take_eq_get hc (j := j) (by simpa using hj')
  rw [getElem!_pos _ j hj]
  constructor
  · rw [Nat.zero_add, cell_of_row w g j cur T (0, 0) hg, e]; simp [hj']
  · simp [World.frozen?, hg]

/-- A row of ints laid anew in the block that the call owns. -/
theorem put_world {w : World} {B cap g n : Nat} {l l' : List Int} {cur : Array Value} {T : TypeId} {os : Array Obj} (hb : B ≤ g) (hg : w.heap[g]? = some (.cells cur T (0, 0))) (hcap : l.length ≤ cap) (hm : cap ≤ maxLen) (hs : cur.size = cap * 1)
    (hlen : l'.length = l.length) {m : Nat} (hml : m ≤ l'.length) :
    (grow (putRow (Value.int .i64) (Sort.ahead w n) g 0 l'.toArray) os).ownsRow B T 1 (.slice (some ⟨g, 0, none⟩) m cap) m (icells (l'.take m)) ∧ w.grownBy (grow (putRow (Value.int .i64) (Sort.ahead w n) g 0 l'.toArray) os) (some g) := by
  have hlt : g < w.heap.size := by
    rcases Nat.lt_or_ge g w.heap.size with h | h
    · exact h
    · rw [Array.getElem?_eq_none h] at hg; cases hg
  have hnew : (grow (putRow (Value.int .i64) (Sort.ahead w n) g 0 l'.toArray) os).heap[g]? = some (.cells (putCells (Value.int .i64) 0 l'.toArray cur) T (0, 0)) := by
    unfold grow putRow mapBlock Sort.ahead
    simp only [Array.getElem?_append, Array.size_modify, hlt, if_true, Array.getElem?_modify, hg, Option.map_some]
    rfl
  refine ⟨⟨by simp [hml], .inr ⟨g, cap, _, rfl, hb, hnew, by omega, hm, by simp [putCells, hs], ?_⟩⟩, ?_⟩
  · apply List.ext_getElem?
    intro j
    by_cases hj : j < m
    · have hjc : j < cur.size := by rw [hs]; omega
      rw [List.getElem?_take_of_lt (by omega)]
      simp only [putCells, Array.toList_mapIdx, List.getElem?_mapIdx]
      have : cur.toList[j]? = some cur.toList[j] := List.getElem?_eq_getElem (by simpa using hjc)
      rw [this]
      have hj' : j < l'.length := by omega
      simp only [Option.map_some, Nat.zero_le, Nat.zero_add, List.size_toArray, hj', and_self, if_true, Nat.sub_zero]
      rw [getElem!_pos _ j (by simpa using hj')]
      simp [List.getElem?_take_of_lt hj, hj']
    · rw [List.getElem?_eq_none (by simp; omega), List.getElem?_eq_none (by simp; omega)]
  · refine ⟨rfl, rfl, rfl, ?_, ?_⟩
    · unfold grow putRow mapBlock Sort.ahead
      simp
    · intro k hk hne
      have hne' : g ≠ k := fun e => hne (by rw [e])
      unfold grow putRow mapBlock Sort.ahead
      simp [Array.getElem?_append, hk, Array.getElem_modify, hne']

def isort (l : List Int) : List Int := l.mergeSort fun x y => decide (x ≤ y)
theorem isort_len (l : List Int) : (isort l).length = l.length := by unfold isort; simp

theorem sortI_own {B : Nat} {v : Value} (l : List Int) (w : World) (hown : w.ownsRow B 3 1 v l.length (icells l)) (hl : l.length ≤ 140737488355328) :
    Calls Tryz.prog 79 #[v] w fun e w' => e = .returned (.tuple #[]) ∧ w'.ownsRow B 3 1 v l.length (icells (isort l)) ∧ w.grownBy w' v.ownBlock := by
  rcases hown.2 with ⟨rfl, h0⟩ | ⟨g, cap, cur, rfl, hb, hg, hcap, hm, hs, ht⟩
  · have hl0 : l = [] := List.eq_nil_of_length_eq_zero h0
    subst hl0
    refine (Tryz.slices_Sort_int_none none 0 w).mono fun e w' ⟨he, hw⟩ => ?_
    subst hw
    refine ⟨he, by simpa [isort] using hown, ⟨rfl, rfl, rfl, Nat.le_refl _, fun _ _ _ => rfl⟩⟩
  · have hlt : g < w.heap.size := by
      rcases Nat.lt_or_ge g w.heap.size with h | h
      · exact h
      · rw [Array.getElem?_eq_none h] at hg; cases hg
    refine (Tryz.slices_Sort_int g 0 cap l w (holdsI hg (by simpa using ht)) hlt (by omega)).mono fun e w' ⟨he, n, os, hw⟩ => ?_
    subst hw
    have := put_world (l := l) (l' := isort l) (os := os) (n := n) hb hg hcap hm hs (isort_len l) (m := l.length) (by rw [isort_len]; exact Nat.le_refl _)
    rw [List.take_of_length_le (by rw [isort_len]; exact Nat.le_refl _)] at this
    exact ⟨he, this.1, this.2⟩

theorem compact_len (l : List Int) : (Lib.compact l).length ≤ l.length := by
  unfold Lib.compact Lib.compactUpTo
  rw [List.length_map]
  refine Nat.le_trans (List.length_filter_le _ _) (by simp)

end Go.Proofs.YtldlmkfigjicgaaGreatDoor
/- table.Values, table.Keys. -/
namespace Go.Proofs.YtldlmkfigjicgaaGreatDoor
set_option linter.unusedVariables false
open Go.ChangeShapes Go.WideShapes Go.ChangeAt Go.RowKit

def IntsPost (l : List Int) (w : World) (e : Ending) (w' : World) : Prop :=
  ∃ v, e = .returned v ∧ w'.ownsRow w.heap.size 3 1 v l.length (icells l) ∧ Below w.heap.size w w'
def onceI (l : List Int) : List Int := Lib.compact (isort l)
end Go.Proofs.YtldlmkfigjicgaaGreatDoor
