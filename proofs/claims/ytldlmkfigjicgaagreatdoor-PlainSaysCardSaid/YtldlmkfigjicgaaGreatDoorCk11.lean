/- ZsC, ZsD, ZsF, ZsG, ZsH -/
import Derived.Test.YtldlmkfigjicgaaGreatDoorCk10
import Derived.Test.YtldlmkfigjicgaaGreatDoorCk03
import Derived.Deep.CutBlock
import Derived.Deep.CutRange
import Derived.Handy
import Derived.Deep.RegionHeld3
/- zset.Sum: each row with its weight in all, in order. -/
namespace Go.Proofs.YtldlmkfigjicgaaGreatDoor
set_option linter.unusedVariables false
set_option linter.unusedSimpArgs false
open Go.ChangeShapes Go.WideShapes Go.ChangeAt Go.RowKit Go.Shelf Go.Lib Go.Sort

/-- A list of items, and where it lies. -/
structure LR where
  L : List IR
  A : Option Addr
  k : Nat
abbrev LR.cells (x : LR) : List Value := [.slice x.A x.L.length x.k]
theorem LR.len (x : LR) : x.cells.length = 1 := rfl
abbrev lrs (LL : List LR) : List IR := LL.flatMap LR.L
theorem Row.lr {w : World} {B : Nat} {A : Option Addr} {LL : List LR} (h : Row w B A (LL.flatMap LR.cells)) {k : Nat} (hk : k < LL.length) :
    ∃ b off, A = some ⟨b, off, none⟩ ∧ b < B ∧ w.cell? ⟨b, off + k, none⟩ = some (.slice LL[k].A LL[k].L.length LL[k].k) := by
  obtain ⟨b, off, h1, h2, h3⟩ := Row.flat LR.len h (by omega) hk
  have := h3 0 _ rfl
  rw [Nat.mul_one, Nat.add_zero] at this
  exact ⟨b, off, h1, h2, this⟩
theorem lrs_take_len (LL : List LR) (j : Nat) : (lrs (LL.take j)).length ≤ (lrs LL).length := by
  have e : lrs LL = lrs (LL.take j) ++ lrs (LL.drop j) := by rw [lrs, lrs, lrs, ← List.flatMap_append, List.take_append_drop]
  rw [e, List.length_append]; omega

theorem grp_at {L : List IR} {i n : Nat} (h : i + n < L.length) : grpSum (its L) i (n + 1) = IntKind.i64.wrap (grpSum (its L) i n + L[i + n].n) := by
  rw [grpSum, List.getElem?_eq_getElem (by rw [its_len]; exact h), Option.map_some, Option.getD_some]
  simp [its]

set_option maxHeartbeats 8000000 in
set_option maxRecDepth 100000 in
theorem sum_any (LL : List LR) (A : Option Addr) (c : Nat) (w : World) (hr : Row w w.heap.size A (LL.flatMap LR.cells)) (hrows : ∀ x ∈ LL, RowI w w.heap.size x.A x.L) (hl : (lrs LL).length ≤ 4194304) (hll : LL.length ≤ 1048576) (hrl : ∀ x ∈ lrs LL, x.row.length ≤ 1048576) :
    Calls Tryz.prog 36 #[.slice A LL.length c] w (ItsPost (sumL (its (lrs LL))) w) := by
  have HR := hid hr
  have HRW := hid hrows
  have HRL := hid hrl
  clear hr hrows hrl
  have hs0 : w.heap.size ≤ w.heap.size := Nat.le_refl _
  obtain ⟨i0, z0, hi0, hz0, hz1, hz2, hz3⟩ := elem_item.hi
  go_enter Tryz.func36, Tryz.ntmps36
  go_wp2_with fail
  -- STOP-a
  go_loopw [3, 11] (fun s3 s11 wr => ∃ j : Nat, j ≤ LL.length ∧ s11 = .int .i64 j ∧ Hid (wr.ownsRow w.heap.size 67 2 s3 (lrs (LL.take j)).length (rcells (lrs (LL.take j)))) ∧ Hid (Below w.heap.size w wr)) (fun _ s11 _ => LL.length - (intOf s11).toNat)
  case atStart => exact ⟨0, by omega, rfl, hid (World.ownsRow_nil _ _ _ _), hid (Below.refl _ _)⟩
  case round =>
    obtain ⟨j, hj, rfl, HOWN, HB⟩ := hrel
    have hsz := HB.out.size
    by_cases hlt : j < LL.length
    · obtain ⟨b, off, rfl, hb, h0⟩ := (HR.out.below HB.out (Nat.le_refl _)).lr hlt
      have HST := hid (show lrs (LL.take (j + 1)) = lrs (LL.take j) ++ LL[j].L by rw [List.take_succ_eq_append_getElem hlt, lrs, List.flatMap_append]; simp)
      have HN := hid ((HRW.out _ (List.getElem_mem hlt)).1.below HB.out (Nat.le_refl _))
      have hl2 : (lrs (LL.take j)).length + LL[j].L.length ≤ 4194304 := by
        have := lrs_take_len LL (j + 1)
        rw [HST.out, List.length_append] at this
        omega
      obtain ⟨O, hO⟩ : ∃ O, O = lrs (LL.take j) := ⟨_, rfl⟩
      rw [← hO] at HOWN HST hl2
      clear hO
      generalize LL[j] = x at *
      obtain ⟨xl, xA, xk⟩ := x
      obtain ⟨A3, c3, rfl⟩ := own_formS HOWN.out
      have hb2 : b < wr.heap.size := by omega
      simp only at h0 HN hl2 HST
      go_wp2_with (at_builtin; refine wpList_append_row elem_item rfl _ _ rfl w.heap.size _ _ _ rfl HOWN.out xA xl.length xk w.heap.size (rcells xl) rfl (rcells_len xl) HN.out (rcells_one xl) ?_ ?_ ?_ ?_; rotate_right; intro v6 w6 hown6 hg6 hif6; rotate_left; (simp only [maxLen]; omega); (omega); (omega))
      go_roundw
      case rel =>
        refine ⟨j + 1, by omega, by go_num, ?_, hid (HB.out.grown hg6 hsz (fun g e => (HOWN.out.lt g e).1))⟩
        rw [HST.out, List.length_append, rcells, List.flatMap_append]
        exact hid hown6
      case measure => simp [intOf]; omega
    · have hJ : LL.take j = LL := List.take_of_length_le (by omega)
      rw [hJ] at HOWN
      obtain ⟨L, hL⟩ : ∃ L, L = lrs LL := ⟨_, rfl⟩
      rw [← hL] at HOWN hl HRL ⊢
      have HRA : Hid (RowsAt w w.heap.size L) := hid (fun x hx => by
        rw [hL] at hx
        obtain ⟨y, hy, hxy⟩ := List.mem_flatMap.1 hx
        exact (HRW.out y hy).2 x hxy)
      obtain ⟨A3, c3, rfl⟩ := own_formS HOWN.out
      have HRA2 := hid (HRA.out.below HB.out (Nat.le_refl _))
      have HLL := hid hL
      clear hL hJ HRW
      go_wp2_with fail
      -- STOP-b
      refine (zsortI_own L _ HOWN.out HRA2.out hsz (by omega)).mono ?_
      rintro e w2 ⟨rfl, L', hperm, hris, hown2, hg2⟩
      have HB2 := hid (HB.out.grown hg2 hsz (fun g e => (HOWN.out.lt g e).1))
      have HPM := hid hperm
      have HRS := hid hris
      have hln : L'.length = L.length := hperm.length_eq
      have HRX := hid (show Row w2 w2.heap.size A3 (rcells L') from Row.of_ownS hown2)
      have HRB : Hid (RowsAt w2 w2.heap.size L') := hid ((((HRA.out.sub fun x hx => hperm.mem_iff.1 hx).below HB2.out (Nat.le_refl _))).more HB2.out.size)
      have HRL2 : Hid (∀ x ∈ L', x.row.length ≤ 1048576) := hid (fun x hx => HRL.out x (hperm.mem_iff.1 hx))
      have HFIN : Hid (∀ S : List It, Summed (its L') (its L').length S → S = sumL (its L)) := hid (fun S h => summed_sumL (hperm.map IR.it) h)
      have HLN := hid hln
      have hs2 : w.heap.size ≤ w2.heap.size := HB2.out.size
      clear hperm hris hown2 hg2 HRA HRA2 HRL HB HOWN hln hsz hlt hj
      go_wp2_with fail
      -- STOP-c
      go_loopw [6, 7] (fun s6 s7 wr => ∃ (i : Nat) (S : List IR), i ≤ L.length ∧ s7 = .int .i64 i ∧ S.length ≤ i ∧ Hid (Summed (its L') i (its S)) ∧ Hid (wr.ownsRow w2.heap.size 67 2 s6 S.length (rcells S)) ∧ Hid (RowsNew wr w2.heap.size s6 S) ∧ Hid (Below w2.heap.size w2 wr)) (fun _ s7 _ => L.length - (intOf s7).toNat)
      case atStart => exact ⟨0, [], by omega, rfl, by simp, hid (summed_nil _), hid (World.ownsRow_nil _ _ _ _), hid (RowsNew.nil _ _ _), hid (Below.refl _ _)⟩
      case round =>
        obtain ⟨i, S, hi, rfl, hSi, HSM, HOWN, HNEW, HB⟩ := hrel
        obtain ⟨wo, rfl⟩ : ∃ wx : World, wx = wr := ⟨_, rfl⟩
        obtain ⟨A6, c6, rfl⟩ := own_formS HOWN.out
        have hs3 := HB.out.size
        by_cases hlt : i < L.length
        · have hlt' : i < L'.length := by have := HLN.out; omega
          have HRXo := hid (HRX.out.step HB.out)
          have HRBo := hid (HRB.out.step HB.out)
          obtain ⟨b, off, rfl, hb, h0, h1⟩ := HRXo.out.it hlt'
          have hbw : b < w2.heap.size := by
            obtain ⟨b2, off2, hA2, hb2, -⟩ := HRX.out.it hlt'
            injection hA2 with hA2
            injection hA2 with hA3
            omega
          have hmem := List.getElem_mem hlt'
          have HRO : Hid (∀ h : i < L'.length, L'[i] = L'[i]) := hid (fun _ => rfl)
          have HROW := hid (HRBo.out _ hmem).1
          have hrl2 := HRL2.out _ hmem
          have HEQ := hid (show ∀ j, (h : j < L'.length) → (its L')[j]'(by rw [its_len]; exact h) = L'[j].it from fun j h => by simp [its])
          obtain ⟨r, hr⟩ : ∃ r, r = L'[i].row := ⟨_, rfl⟩
          have HRR := hid hr
          rw [← hr] at h0 HROW hrl2
          clear hr hmem HRO
          generalize L'[i].A = rA at *
          generalize L'[i].k = rk at *
          generalize L'[i].n = rn at *
          have HCL := hid (cloneI_any r rA rk wo HROW.out hrl2)
          go_wp2_with fail
          -- STOP-d
          refine HCL.out.mono ?_
          rintro e w3 ⟨A5, c5, rfl, hrow5, hnew5, hin5, hb5⟩
          have HIN5 := hid hin5
          have HROW5 := hid hrow5
          have HNEW5 := hid hnew5
          have HB5 := hid hb5
          have hs5 := hb5.size
          clear hrow5 hnew5 hin5 hb5 h0 h1 hb HCL HROW
          go_wp2_with fail
          -- STOP-e
          go_loopw [7] (fun s7 wr => ∃ n : Nat, i + n ≤ L.length ∧ s7 = .int .i64 ((i + n : Nat) : Int) ∧ Hid (InGroup (its L') i (i + n) r) ∧ Hid (Blk wr w3.heap.size #[.slice A5 r.length c5, .int .i64 (grpSum (its L') i n)] 67) ∧ Hid (Below w3.heap.size w3 wr)) (fun s7 _ => L.length - (intOf s7).toNat)
          case atStart => exact ⟨0, by omega, by simp, hid (fun k hk h1 h2 => by omega), hid (Blk.new _ _ _), hid (alloc_below (Below.refl _ _) _)⟩
          case round =>
            obtain ⟨n, hn, rfl, HG, HXB, HB6⟩ := hrel
            obtain ⟨wi, rfl⟩ : ∃ wx : World, wx = wr := ⟨_, rfl⟩
            obtain ⟨j, hj⟩ : ∃ j, j = i + n := ⟨_, rfl⟩
            have HJ := hid hj
            rw [← hj] at hn HG ⊢
            clear hj
            have hs6 := HB6.out.size
            have HB7 := hid (Below.step' HB.out (Below.step' HB5.out HB6.out))
            have HROW6 := hid (HROW5.out.row.step HB6.out)
            have hxl := HXB.out.lt
            obtain ⟨okb, hok⟩ : ∃ okb : Bool, okb = (if h : j < L'.length then decide (cmpL L'[j].row r = 0) else false) := ⟨_, rfl⟩
            have HOK := hid hok
            clear hok
            go_upto_region 12 with fail
            go_cut [46] from 32 to 46 (fun s wx => s = .bool okb ∧ Hid (Below wi.heap.size wi wx))
            case first =>
              by_cases hlt2 : j < L.length
              · have hlt3 : j < L'.length := by have := HLN.out; omega
                obtain ⟨b', off', hA, hb', h0, h1⟩ := (HRX.out.step HB7.out).it hlt3
                injection hA with hA
                injection hA with hA1 hA2
                subst hA1 hA2
                have hokv : okb = decide (cmpL L'[j].row r = 0) := by rw [HOK.out, dif_pos hlt3]
                have hmem := List.getElem_mem hlt3
                have HORD := hid (fun w1 (hb : Below wi.heap.size wi w1) => orderL_any L'[j].row r L'[j].A A5 L'[j].k c5 w1 ((HRB.out.step HB7.out).step hb _ hmem).1 (HROW6.out.step hb) (Nat.le_trans (HRL2.out _ hmem) (by decide)) (by omega))
                obtain ⟨cv, hcv⟩ : ∃ cv, cv = cmpL L'[j].row r := ⟨_, rfl⟩
                rw [← hcv] at HORD hokv
                clear hmem hcv
                generalize L'[j].row = xr at *
                generalize L'[j].A = xA at *
                generalize L'[j].k = xk at *
                generalize L'[j].n = xn at *
                have HOV := hid hokv
                obtain ⟨cx, fx, sx, nx⟩ := HXB.out.all
                by_cases hz : cv = 0
                · have t1 : (cv == 0) = true := by simp [hz]
                  have HZ := hid hz
                  clear hokv hz
                  go_wp2
                  refine region_ext (by kernel_rfl) (by kernel_rfl) (fun hext => ?_)
                  repeat (any_goals ((with_reducible refine wpQuiet_step (fun K hK => ?_)); go_simp; first | (with_reducible refine hK _ ?_; clear hK K) | ((with_reducible apply Exists.intro); (with_reducible refine ⟨fun _ => ?_, hK _ ?_⟩); (go_at_call 16; exact ext_call_same _ (HORD.out _ (Ext.below _))); clear hK K) | ((with_reducible refine (if_neg ?_).mpr (hK _ ?_)); (decide); clear hK K) | (split <;> (with_reducible refine hK _ ?_; clear hK K))))
                  all_goals ((with_reducible refine wpQuiet_nil ?_); clear hext; intro w1 hx1; have hb1 := ext_below hx1; clear hx1)
                  go_wp2
                  all_goals
                    go_meet
                    case rel => exact ⟨by rw [HOV.out, decide_eq_true HZ.out], hid hb1⟩
                · have t1 : (cv == 0) = false := by simp [hz]
                  have HZ := hid hz
                  clear hokv hz
                  go_wp2
                  refine region_ext (by kernel_rfl) (by kernel_rfl) (fun hext => ?_)
                  repeat (any_goals ((with_reducible refine wpQuiet_step (fun K hK => ?_)); go_simp; first | (with_reducible refine hK _ ?_; clear hK K) | ((with_reducible apply Exists.intro); (with_reducible refine ⟨fun _ => ?_, hK _ ?_⟩); (go_at_call 16; exact ext_call_same _ (HORD.out _ (Ext.below _))); clear hK K) | ((with_reducible refine (if_neg ?_).mpr (hK _ ?_)); (decide); clear hK K) | (split <;> (with_reducible refine hK _ ?_; clear hK K))))
                  all_goals ((with_reducible refine wpQuiet_nil ?_); clear hext; intro w1 hx1; have hb1 := ext_below hx1; clear hx1)
                  go_wp2
                  all_goals
                    go_meet
                    case rel => exact ⟨by rw [HOV.out, decide_eq_false HZ.out], hid hb1⟩
              · have hlt3 : ¬ j < L'.length := by have := HLN.out; omega
                have HOV : Hid (okb = false) := hid (by rw [HOK.out, dif_neg hlt3])
                have hd : decide ((j : Int) < (L.length : Int)) = false := decide_eq_false (by omega)
                go_wp2
                refine region_ext (by kernel_rfl) (by kernel_rfl) (fun hext => ?_)
                repeat (any_goals ((with_reducible refine wpQuiet_step (fun K hK => ?_)); go_simp; first | (with_reducible refine hK _ ?_; clear hK K) | ((with_reducible apply Exists.intro); (with_reducible refine ⟨fun _ => ?_, hK _ ?_⟩); (fail); clear hK K) | ((with_reducible refine (if_neg ?_).mpr (hK _ ?_)); (decide); clear hK K) | (split <;> (with_reducible refine hK _ ?_; clear hK K))))
                all_goals ((with_reducible refine wpQuiet_nil ?_); clear hext; intro w1 hx1; have hb1 := ext_below hx1; clear hx1)
                go_wp2
                all_goals
                  go_meet
                  case rel => exact ⟨by rw [HOV.out], hid hb1⟩
            case rest =>
              obtain ⟨rfl, HB8⟩ := hcut
              obtain ⟨wj, rfl⟩ : ∃ wx : World, wx = wc := ⟨_, rfl⟩
              have HXB8 := hid (HXB.out.step HB8.out)
              have HB9 := hid (HB6.out.trans (HB8.out.mono hs6))
              have HB10 := hid (Below.step' HB7.out HB8.out)
              have hs8 := HB8.out.size
              clear HXB HB7 HROW6
              cases okb
              · have hn0 : 0 < n := by
                  rcases Nat.eq_zero_or_pos n with h | h
                  · exfalso
                    have hji : j = i := by have := HJ.out; omega
                    have := HOK.out
                    rw [dif_pos (show j < L'.length by omega)] at this
                    simp only [hji] at this
                    rw [← HRR.out, cmpL_self] at this
                    simp at this
                  · exact h
                have hlenj : i + n ≤ (its L').length := by rw [its_len, HLN.out, ← HJ.out]; exact hn
                have hout : ∀ h : i + n < (its L').length, (its L')[i + n].1 ≠ r := fun h e => by
                  have h2 : j < L'.length := by rw [its_len] at h; rw [HJ.out]; exact h
                  have := HOK.out
                  rw [dif_pos h2] at this
                  have e2 := HEQ.out (i + n) (by rw [its_len] at h; exact h)
                  rw [e2] at e
                  simp only [IR.it] at e
                  simp only [HJ.out, e, cmpL_self] at this
                  simp at this
                have hgrp := HG.out
                rw [HJ.out] at hgrp
                have HSS := hid (summed_step (fun a b ha hb hab => HRS.out a b ha hb hab) HSM.out hn0 hlenj r hgrp hout)
                clear hlenj hout hgrp HOK
                obtain ⟨gs, hgs⟩ : ∃ gs, gs = grpSum (its L') i n := ⟨_, rfl⟩
                rw [← hgs] at HXB8 HSS
                clear hgs
                obtain ⟨cx, fx, sx, nx⟩ := HXB8.out.all
                have HOWN8 := hid (own_laterS HOWN.out (Below.step' HB5.out (Below.trans HB6.out (HB8.out.mono hs6))))
                have HNEW8 := hid (HNEW.out.step (Below.step' HB5.out (Below.trans HB6.out (HB8.out.mono hs6))))
                have HROW8 := hid (HROW5.out.step (Below.trans HB6.out (HB8.out.mono hs6)))
                by_cases hz : gs = 0
                · have t1 : (gs != 0) = false := by simp [hz]
                  have HZ := hid hz
                  clear hz
                  go_wp2_with fail
                  go_roundw
                  case rel =>
                    refine ⟨j, S, hn, rfl, by have := HJ.out; omega, ?_, HOWN8, HNEW8, HB10⟩
                    have := HSS.out
                    rw [if_pos HZ.out, ← HJ.out] at this
                    exact hid this
                  case measure => have := HJ.out; simp [intOf]; omega
                · have t1 : (gs != 0) = true := by simp [hz]
                  have HZ := hid hz
                  clear hz
                  have hj2 := HJ.out
                  have hjn : i < j := by omega
                  clear hj2
                  go_wp2_with (at_builtin; refine wpList_append_row elem_item rfl _ _ rfl w2.heap.size _ _ _ rfl (HOWN8.out.alloc _) (some ⟨wj.heap.size, 0, none⟩) 1 1 (wj.heap.size + 1) [.slice A5 r.length c5, .int .i64 gs] rfl rfl (Row.new' _ _ _ rfl rfl (Nat.lt_succ_self _)) (rcells_one [⟨r, A5, c5, gs⟩]) ?_ ?_ ?_ ?_; rotate_right; intro v7 w7 hown7 hg7 hif7; rotate_left; (simp only [maxLen]; omega); (omega); (simp; omega))
                  -- STOP-f
                  have HNEW9 := hid ((HNEW8.out.step (alloc_below (Below.refl _ _) (.cells #[.slice A5 r.length c5, .int .i64 gs] 67))).grown hg7 hif7)
                  have HROW9 := hid ((HROW8.out.step (alloc_below (Below.refl _ _) (.cells #[.slice A5 r.length c5, .int .i64 gs] 67))))
                  have hA5 : ∀ b off q, A5 = some ⟨b, off, q⟩ → some b ≠ (Value.slice A6 S.length c6).ownBlock := fun b off q e e2 => by
                    have q1 := HNEW5.out b off q e
                    have q2 := (HOWN.out.lt b e2.symm).2
                    omega
                  have HA5 := hid hA5
                  have HIF := hid hif7
                  have HG7 := hid hg7
                  have HOWN9 := hid hown7
                  clear hown7 hg7 hif7 hA5
                  go_roundw
                  case rel =>
                    have HB11 := (HB10.out.alloc (by omega) (.cells #[.slice A5 r.length c5, .int .i64 gs] 67)).grown HG7.out (by simp; omega) (fun g e => (HOWN8.out.lt g e).1)
                    have hsum : Summed (its L') j (its (S ++ [⟨r, A5, c5, gs⟩])) := by
                      have := HSS.out
                      rw [if_neg HZ.out, ← HJ.out] at this
                      show Summed (its L') j ((S ++ [(⟨r, A5, c5, gs⟩ : IR)]).map IR.it)
                      rw [List.map_append]
                      exact this
                    have hr9 := (HROW9.out.grown_ne (Nat.le_refl _) HG7.out HA5.out).more HG7.out.size
                    refine ⟨j, S ++ [⟨r, A5, c5, gs⟩], hn, rfl, by simp; omega, hid hsum, ?_, hid ?_, hid HB11⟩
                    · rw [rcells_snoc, List.length_append]
                      exact HOWN9
                    · refine RowsNew.snoc HNEW9.out (x := (⟨r, A5, c5, gs⟩ : IR)) hr9 (newAt_le HNEW5.out hs3) (fun b off q e => ?_) hrl2
                      have hlt9 := HIN5.out b off q e
                      have hsz7 := HG7.out.size
                      simp at hsz7
                      refine ⟨?_, by omega⟩
                      rcases HIF.out with h | h
                      · rw [h]; exact HA5.out b off q e
                      · rw [h]; intro e2; injection e2 with e2; simp at e2; omega
                  case measure => have := HJ.out; simp [intOf]; omega
              · have hlt3 : j < L'.length := by
                  rcases Nat.lt_or_ge j L'.length with h | h
                  · exact h
                  · have := HOK.out; rw [dif_neg (by omega)] at this; cases this
                have hlt2 : j < L.length := by have := HLN.out; omega
                have hrow : L'[j].row = r := by
                  have := HOK.out
                  rw [dif_pos hlt3] at this
                  exact cmpL_eq _ _ (by simpa using this.symm)
                obtain ⟨b', off', hA, hb', h0, h1⟩ := (HRX.out.step HB10.out).it hlt3
                injection hA with hA
                injection hA with hA1 hA2
                subst hA1 hA2
                have HGR : Hid (InGroup (its L') i (j + 1) r) := hid (fun k hk h1 h2 => by
                  by_cases e : k = j
                  · subst e; rw [HEQ.out k hlt3]; exact hrow
                  · exact HG.out k hk h1 (by omega))
                have HGA : Hid (grpSum (its L') i (n + 1) = IntKind.i64.wrap (grpSum (its L') i n + L'[j].n)) := hid (by
                  have := HJ.out
                  subst this
                  exact grp_at hlt3)
                clear hrow HOK
                obtain ⟨gs, hgs⟩ : ∃ gs, gs = grpSum (its L') i n := ⟨_, rfl⟩
                rw [← hgs] at HXB8 HGA
                clear hgs
                generalize L'[j].row = xr at *
                generalize L'[j].A = xA at *
                generalize L'[j].k = xk at *
                generalize L'[j].n = xn at *
                obtain ⟨cx, fx, sx, nx⟩ := HXB8.out.all
                have hne : (w3.heap.size = b) = False := by simp; omega
                have hne' : (b = w3.heap.size) = False := by simp; omega
                have hb3 : b < wj.heap.size := by omega
                go_wp2_with fail
                -- STOP-g
                go_big_region
                go_wp2
                go_roundw
                case rel =>
                  refine ⟨n + 1, by have := HJ.out; omega, by have := HJ.out; go_num, hid (by have := HGR.out; rwa [HJ.out] at this), hid ?_, hid (HB9.out.setCell (p := ⟨w3.heap.size, 1, none⟩) (Nat.le_refl _) _).drew⟩
                  rw [HGA.out, IntWalk.i64_left]
                  exact (HXB8.out.set 1 _).drew
                case measure => have := HJ.out; simp [intOf]; omega
        · have hli : i = (its L').length := by rw [its_len, HLN.out]; omega
          have HF := hid (HFIN.out (its S) (by rw [← hli]; exact HSM.out))
          clear hli
          go_wp2
          go_ret
          exact ⟨A6, c6, S, rfl, by rw [← HLL.out]; exact HF.out, own_baseS HOWN.out hs2, fun x hx => by
            obtain ⟨q1, q2, q3, q4⟩ := HNEW.out x hx
            exact ⟨q1, newAt_le q2 hs2, q3, q4⟩, HB2.out.trans (HB.out.mono hs2)⟩
end Go.Proofs.YtldlmkfigjicgaaGreatDoor
/- slices.IndexFunc, ContainsFunc at Item; zset.Done. -/
namespace Go.Proofs.YtldlmkfigjicgaaGreatDoor
set_option linter.unusedVariables false
set_option linter.unusedSimpArgs false
open Go.ChangeShapes Go.WideShapes Go.ChangeAt Go.RowKit
/-- What is asked of a function value: handed an element of the list, in whatever later world, it answers p, and leaves what was there. -/
def PredIt (g : Nat) (caps : Array Value) (p : IR → Bool) (L : List IR) (w : World) : Prop :=
  ∀ w', Below w.heap.size w w' → ∀ x ∈ L, Calls Tryz.prog g (#[.agg x.cells.toArray] ++ caps) w' fun e w'' => e = .returned (.bool (p x)) ∧ Below w'.heap.size w' w''
set_option maxHeartbeats 400000 in
set_option maxRecDepth 100000 in
theorem indexIt_any (g : Nat) (caps : Array Value) (p : IR → Bool) (L : List IR) (A : Option Addr) (c : Nat) (w : World) (hr : Row w w.heap.size A (rcells L)) (hl : L.length ≤ 9223372036854775807)
    (eg : ∀ args w, (callFunc g args).run Tryz.prog w = .ok (.enter g args) w) (hp : PredIt g caps p L w) :
    Calls Tryz.prog 67 #[.slice A L.length c, .func (.func g) #[] caps] w (FoundAt (L.any p = true) w) := by
  have HR := hid hr
  clear hr
  go_enter Tryz.func67, Tryz.ntmps67
  go_wp2
  go_loopw [8] (fun i wr => (∃ k : Nat, k ≤ L.length ∧ i = .int .i64 k ∧ ∀ j (h : j < L.length), j < k → p L[j] = false) ∧ Below w.heap.size w wr) (fun i _ => L.length - (intOf i).toNat)
  case atStart => exact ⟨⟨0, by omega, rfl, fun j _ h => absurd h (by omega)⟩, Below.refl _ _⟩
  case round =>
    obtain ⟨⟨k, hk, rfl, hno⟩, hbw⟩ := hrel
    by_cases hlt : k < L.length
    · obtain ⟨b, off, rfl, hb, h0, h1⟩ := (HR.out.below hbw (Nat.le_refl _)).it hlt
      have hc := hp wr hbw L[k] (List.getElem_mem _)
      have HN := hid hno
      have HB := hid hbw
      have HC := hid hc
      clear hno hbw hc
      generalize hd : L[k] = d at *
      obtain ⟨xr, xA, xk, xn⟩ := d
      have HD := hid hd
      clear hd
      (try simp only [IR.cells] at h0 h1 HC)
      obtain ⟨pd, hpd⟩ : ∃ b, b = p ⟨xr, xA, xk, xn⟩ := ⟨_, rfl⟩
      rw [← hpd] at HC
      have HP := hid hpd
      clear hpd
      cases pd
      all_goals
        go_wp2_with (refine (HC.out).mono ?_; rintro e w1 ⟨rfl, hb1⟩)
      · go_roundw
        case rel =>
          refine ⟨⟨k + 1, by omega, by go_num, fun j h hj => ?_⟩, HB.out.trans (hb1.mono HB.out.size)⟩
          by_cases e : j = k
          · subst e; rw [HD.out]; exact HP.out.symm
          · exact HN.out j h (by omega)
        case measure => simp [intOf]; omega
      · go_ret
        refine ⟨k, rfl, iff_of_true (by omega) (List.any_eq_true.2 ⟨L[k], List.getElem_mem _, by rw [HD.out]; exact HP.out.symm⟩), HB.out.trans (hb1.mono HB.out.size)⟩
    · go_wp2
      go_ret
      refine ⟨-1, rfl, iff_of_false (by omega) ?_, hbw⟩
      intro hm
      obtain ⟨d, hd, e⟩ := List.any_eq_true.1 hm
      obtain ⟨j, hj, rfl⟩ := List.getElem_of_mem hd
      rw [hno j hj (by omega)] at e
      cases e
theorem containsIt_any (g : Nat) (caps : Array Value) (p : IR → Bool) (L : List IR) (A : Option Addr) (c : Nat) (w : World) (hr : Row w w.heap.size A (rcells L)) (hl : L.length ≤ 9223372036854775807)
    (eg : ∀ args w, (callFunc g args).run Tryz.prog w = .ok (.enter g args) w) (hp : PredIt g caps p L w) :
    Calls Tryz.prog 31 #[.slice A L.length c, .func (.func g) #[] caps] w fun e w' => e = .returned (.bool (L.any p)) ∧ Below w.heap.size w w' := by
  have H := indexIt_any g caps p L A c w hr hl eg hp
  have HR := hid hr
  have HP := hid hp
  clear hr eg hp
  go_enter Tryz.func31, Tryz.ntmps31
  go_wp2_with (go_at_call 67; refine H.mono ?_; rintro e w' ⟨i, rfl, hi, hb⟩)
  go_ret
  refine ⟨ret_bool ?_, hb⟩
  first
    | (rw [Bool.eq_iff_iff, decide_eq_true_eq]; exact hi)
    | (rw [Bool.eq_iff_iff, decide_eq_true_eq, List.any_eq_true])

set_option maxHeartbeats 400000 in
set_option maxRecDepth 100000 in
theorem done1_any (x : IR) (w : World) (hr : Row w w.heap.size x.A (icells' x.row)) (hl : x.row.length ≤ 9223372036854775807) :
    Calls Tryz.prog 70 #[.agg x.cells.toArray] w fun e w' => e = .returned (.bool (badB x.it)) ∧ Below w.heap.size w w' := by
  obtain ⟨xr, xA, xk, xn⟩ := x
  simp only [IR.cells, IR.it] at hr hl ⊢
  have HC := hid (fun w1 (hb : Below w.heap.size w w1) => row_any xr xA xk w1 (hr.step hb) hl)
  have HF := hid (fun w1 => far_any xn w1)
  clear hr
  have HX := hid (show badB (xr, xn) = (!rowB xr || farB xn) from rfl)
  obtain ⟨R, hR⟩ : ∃ R, R = badB (xr, xn) := ⟨_, rfl⟩
  rw [← hR] at HX ⊢
  clear hR
  obtain ⟨rb, hrb⟩ : ∃ b, b = rowB xr := ⟨_, rfl⟩
  rw [← hrb] at HC HX
  clear hrb
  obtain ⟨fb, hfb⟩ : ∃ b, b = farB xn := ⟨_, rfl⟩
  rw [← hfb] at HF HX
  clear hfb
  cases rb
  all_goals
    go_enter Tryz.func70, Tryz.ntmps70
    go_wp2_with fail
    refine (HC.out _ (by (repeat' (first | (with_reducible exact Below.refl _ _) | (with_reducible assumption) | (with_reducible refine below_drewN ?_ _) | (with_reducible refine Below.drew ?_) | (with_reducible refine Below.alloc ?_ ?_ _) | (with_reducible refine Below.setCell ?_ ?_ _) | (refine Below.trans ?_ (Below.mono (by assumption) ?_)) | go_size)))).mono ?_
    rintro e w1 ⟨rfl, hb1⟩
    have hB1 : Below w.heap.size w w1 := (by refine Below.step' ?_ hb1; (repeat' (first | (with_reducible exact Below.refl _ _) | (with_reducible assumption) | (with_reducible refine below_drewN ?_ _) | (with_reducible refine Below.drew ?_) | (with_reducible refine Below.alloc ?_ ?_ _) | (with_reducible refine Below.setCell ?_ ?_ _) | (refine Below.trans ?_ (Below.mono (by assumption) ?_)) | go_size)))
    have HX1 := hid (Blk.step (Blk.new w #[.slice xA xr.length xk, .int .i64 xn] 67) hb1)
    clear hb1
    obtain ⟨cx, fx, sx, nx⟩ := HX1.out.all
    go_wp2_with (go_at_call 34; refine (HF.out _).mono ?_; rintro e w' ⟨rfl, rfl⟩)
    go_ret
    exact ⟨ret_bool (by rw [HX.out]; rfl), hB1⟩
theorem enters_done1 : ∀ args w, (callFunc 70 args).run Tryz.prog w = .ok (.enter 70 args) w := enters_of Tryz.func70 (by kernel_rfl) rfl

set_option maxHeartbeats 400000 in
set_option maxRecDepth 100000 in
theorem norm1_any (x : IR) (w : World) (hr : Row w w.heap.size x.A (icells' x.row)) (hl : x.row.length ≤ 9223372036854775807) :
    Calls Tryz.prog 32 #[.agg x.cells.toArray] w fun e w' => e = .returned (.bool (badB x.it)) ∧ Below w.heap.size w w' := by
  obtain ⟨xr, xA, xk, xn⟩ := x
  simp only [IR.cells, IR.it] at hr hl ⊢
  have HC := hid (fun w1 (hb : Below w.heap.size w w1) => row_any xr xA xk w1 (hr.step hb) hl)
  have HF := hid (fun w1 => far_any xn w1)
  clear hr
  have HX := hid (show badB (xr, xn) = (!rowB xr || farB xn) from rfl)
  obtain ⟨R, hR⟩ : ∃ R, R = badB (xr, xn) := ⟨_, rfl⟩
  rw [← hR] at HX ⊢
  clear hR
  obtain ⟨rb, hrb⟩ : ∃ b, b = rowB xr := ⟨_, rfl⟩
  rw [← hrb] at HC HX
  clear hrb
  obtain ⟨fb, hfb⟩ : ∃ b, b = farB xn := ⟨_, rfl⟩
  rw [← hfb] at HF HX
  clear hfb
  cases rb
  all_goals
    go_enter Tryz.func32, Tryz.ntmps32
    go_wp2_with fail
    refine (HC.out _ (by (repeat' (first | (with_reducible exact Below.refl _ _) | (with_reducible assumption) | (with_reducible refine below_drewN ?_ _) | (with_reducible refine Below.drew ?_) | (with_reducible refine Below.alloc ?_ ?_ _) | (with_reducible refine Below.setCell ?_ ?_ _) | (refine Below.trans ?_ (Below.mono (by assumption) ?_)) | go_size)))).mono ?_
    rintro e w1 ⟨rfl, hb1⟩
    have hB1 : Below w.heap.size w w1 := (by refine Below.step' ?_ hb1; (repeat' (first | (with_reducible exact Below.refl _ _) | (with_reducible assumption) | (with_reducible refine below_drewN ?_ _) | (with_reducible refine Below.drew ?_) | (with_reducible refine Below.alloc ?_ ?_ _) | (with_reducible refine Below.setCell ?_ ?_ _) | (refine Below.trans ?_ (Below.mono (by assumption) ?_)) | go_size)))
    have HX1 := hid (Blk.step (Blk.new w #[.slice xA xr.length xk, .int .i64 xn] 67) hb1)
    clear hb1
    obtain ⟨cx, fx, sx, nx⟩ := HX1.out.all
    go_wp2_with (go_at_call 34; refine (HF.out _).mono ?_; rintro e w' ⟨rfl, rfl⟩)
    go_ret
    exact ⟨ret_bool (by rw [HX.out]; rfl), hB1⟩
theorem enters_norm1 : ∀ args w, (callFunc 32 args).run Tryz.prog w = .ok (.enter 32 args) w := enters_of Tryz.func32 (by kernel_rfl) rfl

theorem any_its (M : List IR) : M.any (fun x => badB x.it) = (its M).any badB := by rw [its, List.any_map]; rfl

def DonePost (D : Int) (v : Value) (w : World) (e : Ending) (w' : World) : Prop := e = .returned (.tuple #[if D = 0 then v else .slice none 0 0, .int .i64 D]) ∧ Below w.heap.size w w'
set_option maxHeartbeats 400000 in
set_option maxRecDepth 100000 in
theorem done_any (M : List IR) (A : Option Addr) (k : Nat) (w : World) (hr : Row w w.heap.size A (rcells M)) (hrow : RowsAt w w.heap.size M) (hl : M.length ≤ 9223372036854775807) :
    Calls Tryz.prog 35 #[.slice A M.length k] w (DonePost (doneE (its M)) (.slice A M.length k) w) := by
  have HC := hid (containsIt_any 70 #[] (fun x => badB x.it) M A k w hr hl enters_done1 (fun w' hb x hx => done1_any x w' ((hrow.step hb) x hx).1 (hrow x hx).2))
  clear hr hrow
  have HE := hid (show doneE (its M) = if (its M).any badB = true then 5 else if 400 < (its M).length then 2 else 0 from rfl)
  rw [any_its] at HC
  rw [its_len] at HE
  obtain ⟨D, hD⟩ : ∃ D, D = doneE (its M) := ⟨_, rfl⟩
  rw [← hD] at HE ⊢
  clear hD
  obtain ⟨B, hB⟩ : ∃ B, B = (its M).any badB := ⟨_, rfl⟩
  rw [← hB] at HC HE
  clear hB
  cases B
  · by_cases h4 : 400 < M.length
    · have h4' : (400 : Int) < (M.length : Int) := by omega
      have HD : Hid (D = 2) := hid (by rw [HE.out, if_neg (by simp), if_pos h4])
      go_enter Tryz.func35, Tryz.ntmps35
      go_wp2_with (go_at_call 31; refine HC.out.mono ?_; rintro e w' ⟨rfl, hb⟩)
      go_ret2
      exact ⟨by rw [HD.out, if_neg (by decide)]; rfl, hb⟩
    · have h4' : (M.length : Int) ≤ 400 := by omega
      have HD : Hid (D = 0) := hid (by rw [HE.out, if_neg (by simp), if_neg h4])
      go_enter Tryz.func35, Tryz.ntmps35
      go_wp2_with (go_at_call 31; refine HC.out.mono ?_; rintro e w' ⟨rfl, hb⟩)
      go_ret2
      exact ⟨by rw [HD.out, if_pos rfl]; rfl, hb⟩
  · have HD : Hid (D = 5) := hid (by rw [HE.out, if_pos rfl])
    go_enter Tryz.func35, Tryz.ntmps35
    go_wp2_with (go_at_call 31; refine HC.out.mono ?_; rintro e w' ⟨rfl, hb⟩)
    go_ret2
    exact ⟨by rw [HD.out, if_neg (by decide)]; rfl, hb⟩
end Go.Proofs.YtldlmkfigjicgaaGreatDoor
/- zset.Norm, Add; what a right set is. -/
namespace Go.Proofs.YtldlmkfigjicgaaGreatDoor
set_option linter.unusedVariables false
set_option linter.unusedSimpArgs false
open Go.ChangeShapes Go.WideShapes Go.ChangeAt Go.RowKit


/-- Sum, Done: over lists that lie where they lay. -/
theorem lens_of {M : List IR} (h : ∀ x ∈ its M, badB x = false) : ∀ x ∈ M, x.row.length ≤ 1048576 := fun x hx => by
  have := badB_false (h x.it (List.mem_map.2 ⟨x, hx, rfl⟩))
  simp only [IR.it] at this
  omega

set_option maxHeartbeats 1000000 in
set_option maxRecDepth 100000 in
theorem norm_any (M : List IR) (A : Option Addr) (c : Nat) (w : World) (hr : RowI w w.heap.size A M) (hl : M.length ≤ 9223372036854775807) :
    Calls Tryz.prog 6 #[.slice A M.length c] w (ItsErr (normX (its M)) (normE (its M)) w) := by
  have HC := hid (containsIt_any 32 #[] (fun x => badB x.it) M A c w hr.1 hl enters_norm1 (fun w' hb x hx => norm1_any x w' ((hr.2.step hb) x hx).1 (hr.2 x hx).2))
  have HR := hid hr
  clear hr
  have HE := hid (show normE (its M) = if 400 < (its M).length then 2 else if (its M).any badB = true then 5 else doneE (sumL (its M)) from rfl)
  have HX := hid (show normX (its M) = if normE (its M) = 0 then sumL (its M) else [] from rfl)
  have HNB : Hid ((its M).any badB = false → ∀ x ∈ M, x.row.length ≤ 1048576) := hid (fun h => lens_of fun x hx => by
    cases hq : badB x
    · rfl
    · rw [List.any_eq_true.2 ⟨x, hx, hq⟩] at h; cases h)
  rw [any_its] at HC
  obtain ⟨E, hE⟩ : ∃ E, E = normE (its M) := ⟨_, rfl⟩
  rw [← hE] at HE HX ⊢
  clear hE
  obtain ⟨X, hX⟩ : ∃ X, X = normX (its M) := ⟨_, rfl⟩
  rw [← hX] at HX ⊢
  clear hX
  rw [its_len] at HE
  obtain ⟨B, hB⟩ : ∃ B, B = (its M).any badB := ⟨_, rfl⟩
  rw [← hB] at HC HE HNB
  clear hB
  by_cases h4 : 400 < M.length
  · have h4' : (400 : Int) < (M.length : Int) := by omega
    have HD : Hid (E = 2) := hid (by rw [HE.out, if_pos h4])
    go_enter Tryz.func6, Tryz.ntmps6
    go_wp2
    go_ret2
    exact itsErr_nil' (by rw [HX.out, HD.out, if_neg (by decide)]) HD.out (Below.refl _ _)
  · have h4' : (M.length : Int) ≤ 400 := by omega
    have h4n : M.length ≤ 400 := by omega
    cases B
    · have HD : Hid (E = doneE (sumL (its M))) := hid (by rw [HE.out, if_neg h4, if_neg (by simp)])
      have hlen := HNB.out rfl
      have HLN := hid hlen
      clear h4 hlen HNB
      go_enter Tryz.func6, Tryz.ntmps6
      go_wp2_with fail
      refine HC.out.mono ?_
      rintro e w1 ⟨rfl, hb1⟩
      have HB1 := hid hb1
      have HR1 := hid (HR.out.step hb1)
      clear hb1 HC
      have HSM : Hid (∀ w2, Below w1.heap.size w1 w2 → ∀ A2, Row w2 w2.heap.size A2 [.slice A M.length c] → Calls Tryz.prog 36 #[.slice A2 1 1] w2 (ItsPost (sumL (its M)) w2)) := hid (fun w2 hb A2 h => by
        have := sum_any [⟨M, A, c⟩] A2 1 w2 (by simpa using h) (fun x hx => by rw [List.mem_singleton.1 hx]; exact HR1.out.step hb) (by simp; omega) (by simp) (by simpa using HLN.out)
        simpa using this)
      go_wp2_with fail
      -- STOP-a
      refine (HSM.out _ (alloc_below (Below.refl _ _) _) _ (Row.new' _ _ _ rfl rfl (by simp))).mono ?_
      rintro e w2 ⟨A2, k2, M2, rfl, hits, hown, hnew, hb2⟩
      have hB2 : Below w1.heap.size w1 w2 := (by refine Below.step' ?_ hb2; (repeat' (first | (with_reducible exact Below.refl _ _) | (with_reducible assumption) | (with_reducible refine below_drewN ?_ _) | (with_reducible refine Below.drew ?_) | (with_reducible refine Below.alloc ?_ ?_ _) | (with_reducible refine Below.setCell ?_ ?_ _) | (refine Below.trans ?_ (Below.mono (by assumption) ?_)) | go_size)))
      have HIT := hid hits
      have HOW := hid (own_baseS hown (show w.heap.size ≤ _ by have := HB1.out.size; simp; omega))
      have HNW : Hid (RowsNew w2 w.heap.size (.slice A2 M2.length k2) M2) := hid (fun x hx => by
        obtain ⟨q1, q2, q3, q4⟩ := hnew x hx
        exact ⟨q1, newAt_le q2 (by have := HB1.out.size; simp; omega), q3, q4⟩)
      have HB2 := hid (Below.step' HB1.out hB2)
      have hlM : M2.length ≤ 9223372036854775807 := by
        have := sumL_len (its M)
        rw [← hits, its_len, its_len] at this
        omega
      have hdn := done_any M2 A2 k2 w2 (Row.of_ownS hown) hnew.rows hlM
      rw [hits, ← HD.out] at hdn
      have HDN := hid hdn
      clear hits hown hnew hb2 hB2 hdn hlM HSM
      go_wp2_with fail
      refine HDN.out.mono ?_
      rintro e w3 ⟨rfl, hb3⟩
      have HB3 := hid hb3
      clear hb3 HDN
      by_cases hz : E = 0
      · have HZ := hid hz
        rw [if_pos hz]
        clear hz
        go_wp2
        go_ret2
        exact ⟨A2, k2, M2, rfl, by rw [HIT.out, HX.out, if_pos HZ.out], own_laterS HOW.out HB3.out, HNW.out.step HB3.out, Below.step' HB2.out HB3.out⟩
      · have HZ := hid hz
        rw [if_neg hz]
        clear hz
        go_wp2
        go_ret2
        exact itsErr_nil' (by rw [HX.out, if_neg HZ.out]) rfl (Below.step' HB2.out HB3.out)
    · have HD : Hid (E = 5) := hid (by rw [HE.out, if_neg h4, if_pos rfl])
      go_enter Tryz.func6, Tryz.ntmps6
      go_wp2_with (go_at_call 31; refine HC.out.mono ?_; rintro e w' ⟨rfl, hb⟩)
      go_ret2
      exact itsErr_nil' (by rw [HX.out, HD.out, if_neg (by decide)]) HD.out hb
end Go.Proofs.YtldlmkfigjicgaaGreatDoor
/- zset.Add, Neg. -/
namespace Go.Proofs.YtldlmkfigjicgaaGreatDoor
set_option linter.unusedVariables false
set_option linter.unusedSimpArgs false
open Go.ChangeShapes Go.WideShapes Go.ChangeAt Go.RowKit

theorem lens_set {M : List IR} (h : setI (its M) = 0) : ∀ x ∈ M, x.row.length ≤ 1048576 := lens_of (setI_zero.1 h).2.1
theorem len_set {M : List IR} (h : setI (its M) = 0) : M.length ≤ 400 := by have := (setI_zero.1 h).1; rwa [its_len] at this

set_option maxHeartbeats 2000000 in
set_option maxRecDepth 100000 in
theorem add_any (M1 M2 : List IR) (A1 A2 : Option Addr) (c1 c2 : Nat) (w : World) (hr1 : RowI w w.heap.size A1 M1) (hl1 : M1.length ≤ 9223372036854775807) (hr2 : RowI w w.heap.size A2 M2) (hl2 : M2.length ≤ 9223372036854775807) :
    Calls Tryz.prog 8 #[.slice A1 M1.length c1, .slice A2 M2.length c2] w (ItsErr (addX (its M1) (its M2)) (addE (its M1) (its M2)) w) := by
  have HK1 := hid (fun w1 (hb : Below w.heap.size w w1) => zcheck_any M1 A1 c1 w1 (hr1.step hb) hl1)
  have HK2 := hid (fun w1 (hb : Below w.heap.size w w1) => zcheck_any M2 A2 c2 w1 (hr2.step hb) hl2)
  have HR1 := hid hr1
  have HR2 := hid hr2
  clear hr1 hr2
  have HE := hid (show addE (its M1) (its M2) = if setI (its M1) ≠ 0 then setI (its M1) else if setI (its M2) ≠ 0 then setI (its M2) else doneE (sumL (its M1 ++ its M2)) from rfl)
  have HX := hid (show addX (its M1) (its M2) = if addE (its M1) (its M2) = 0 then sumL (its M1 ++ its M2) else [] from rfl)
  have HL1 : Hid (setI (its M1) = 0 → M1.length ≤ 400 ∧ ∀ x ∈ M1, x.row.length ≤ 1048576) := hid fun h => ⟨len_set h, lens_set h⟩
  have HL2 : Hid (setI (its M2) = 0 → M2.length ≤ 400 ∧ ∀ x ∈ M2, x.row.length ≤ 1048576) := hid fun h => ⟨len_set h, lens_set h⟩
  obtain ⟨E, hE⟩ : ∃ E, E = addE (its M1) (its M2) := ⟨_, rfl⟩
  rw [← hE] at HE HX ⊢
  clear hE
  obtain ⟨X, hX⟩ : ∃ X, X = addX (its M1) (its M2) := ⟨_, rfl⟩
  rw [← hX] at HX ⊢
  clear hX
  obtain ⟨E1, hE1⟩ : ∃ q, q = setI (its M1) := ⟨_, rfl⟩
  obtain ⟨E2, hE2⟩ : ∃ q, q = setI (its M2) := ⟨_, rfl⟩
  rw [← hE1] at HE HK1 HL1
  rw [← hE2] at HE HK2 HL2
  clear hE1 hE2
  go_enter Tryz.func8, Tryz.ntmps8
  go_wp2_with fail
  obtain ⟨W, hW⟩ : ∃ W : World, W = w.alloc (.cells #[.slice A1 M1.length c1, .slice A2 M2.length c2] 22) := ⟨_, rfl⟩
  have HXA := hid (show Blk W w.heap.size #[.slice A1 M1.length c1, .slice A2 M2.length c2] 22 by rw [hW]; exact Blk.new _ _ _)
  have HBW := hid (show Below w.heap.size w W by rw [hW]; exact alloc_below (Below.refl _ _) _)
  -- STOP-a
  rw [← hW]
  clear hW
  obtain ⟨cHXA, fHXA, sHXA, nHXA⟩ := HXA.out.all
  try simp only [cbox] at cHXA
  refine wp_loop_rounds 3 ?_
  rw [rounds_succ]
  by_cases q1 : E1 = 0
  rotate_left
  · have t1 : (E1 != 0) = true := by simpa using q1
    have HD : Hid (E = E1) := hid (by rw [HE.out, if_pos q1])
    have HQ := hid q1
    clear q1
    go_wp2_with (go_at_call 18; refine (HK1.out _ HBW.out).mono ?_; rintro e w1 ⟨rfl, hb1⟩)
    go_ret2
    exact itsErr_nil' (by rw [HX.out, HD.out, if_neg HQ.out]) HD.out (Below.step' HBW.out hb1)
  · subst q1
    go_wp2_with fail
    refine (HK1.out _ HBW.out).mono ?_
    rintro e w1 ⟨rfl, hb1⟩
    clear cHXA fHXA sHXA nHXA
    replace HXA := hid (HXA.out.step hb1)
    replace HBW := hid (Below.step' HBW.out hb1)
    clear hb1
    obtain ⟨cHXA, fHXA, sHXA, nHXA⟩ := HXA.out.all
    try simp only [cbox] at cHXA
    go_wp2_with fail
    rw [rounds_succ]
    by_cases q2 : E2 = 0
    rotate_left
    · have t1 : (E2 != 0) = true := by simpa using q2
      have HD : Hid (E = E2) := hid (by rw [HE.out, if_neg (by simp), if_pos q2])
      have HQ := hid q2
      clear q2
      go_wp2_with (go_at_call 18; refine (HK2.out _ HBW.out).mono ?_; rintro e w2 ⟨rfl, hb2⟩)
      go_ret2
      exact itsErr_nil' (by rw [HX.out, HD.out, if_neg HQ.out]) HD.out (Below.step' HBW.out hb2)
    · subst q2
      have HD : Hid (E = doneE (sumL (its M1 ++ its M2))) := hid (by rw [HE.out, if_neg (by simp), if_neg (by simp)])
      obtain ⟨l1, n1⟩ := HL1.out (by first | rfl | trivial)
      obtain ⟨l2, n2⟩ := HL2.out (by first | rfl | trivial)
      have HN1 := hid n1
      have HN2 := hid n2
      clear n1 n2 HL1 HL2
      go_wp2_with fail
      refine (HK2.out _ HBW.out).mono ?_
      rintro e w2 ⟨rfl, hb2⟩
      clear cHXA fHXA sHXA nHXA
      replace HBW := hid (Below.step' HBW.out hb2)
      clear hb2 HXA
      have HSM : Hid (∀ w3, Below w2.heap.size w2 w3 → ∀ A3, Row w3 w3.heap.size A3 [.slice A1 M1.length c1, .slice A2 M2.length c2] → Calls Tryz.prog 36 #[.slice A3 2 2] w3 (ItsPost (sumL (its M1 ++ its M2)) w3)) := hid (fun w3 hb A3 h => by
        have := sum_any [⟨M1, A1, c1⟩, ⟨M2, A2, c2⟩] A3 2 w3 (by simpa using h) (fun x hx => by
          simp only [List.mem_cons, List.not_mem_nil, or_false] at hx
          rcases hx with rfl | rfl
          · exact HR1.out.step (Below.step' HBW.out hb)
          · exact HR2.out.step (Below.step' HBW.out hb)) (by simp; omega) (by simp) (fun x hx => by
          simp only [lrs, List.flatMap_cons, List.flatMap_nil, List.append_nil, List.mem_append] at hx
          rcases hx with hx | hx
          · exact HN1.out x hx
          · exact HN2.out x hx)
        simpa using this)
      go_wp2_with fail
      rw [rounds_succ]
      go_wp2_with fail
      -- STOP-b
      refine (HSM.out _ (alloc_below (Below.refl _ _) _) _ (Row.new' _ _ _ rfl rfl (by simp))).mono ?_
      rintro e w3 ⟨A3, k3, M3, rfl, hits, hown, hnew, hb3⟩
      have hB3 : Below w2.heap.size w2 w3 := (by refine Below.step' ?_ hb3; (repeat' (first | (with_reducible exact Below.refl _ _) | (with_reducible assumption) | (with_reducible refine below_drewN ?_ _) | (with_reducible refine Below.drew ?_) | (with_reducible refine Below.alloc ?_ ?_ _) | (with_reducible refine Below.setCell ?_ ?_ _) | (refine Below.trans ?_ (Below.mono (by assumption) ?_)) | go_size)))
      have HIT := hid hits
      have HOW := hid (own_baseS hown (show w.heap.size ≤ _ by have := HBW.out.size; simp; omega))
      have HNW : Hid (RowsNew w3 w.heap.size (.slice A3 M3.length k3) M3) := hid (fun x hx => by
        obtain ⟨q1, q2, q3, q4⟩ := hnew x hx
        exact ⟨q1, newAt_le q2 (by have := HBW.out.size; simp; omega), q3, q4⟩)
      have HB2 := hid (Below.step' HBW.out hB3)
      have hlM : M3.length ≤ 9223372036854775807 := by
        have := sumL_len (its M1 ++ its M2)
        rw [← hits, its_len, List.length_append, its_len, its_len] at this
        omega
      have hdn := done_any M3 A3 k3 w3 (Row.of_ownS hown) hnew.rows hlM
      rw [hits, ← HD.out] at hdn
      have HDN := hid hdn
      clear hits hown hnew hb3 hB3 hdn hlM HSM
      go_wp2_with fail
      refine HDN.out.mono ?_
      rintro e w4 ⟨rfl, hb4⟩
      have HB4 := hid hb4
      clear hb4 HDN
      by_cases hz : E = 0
      · have HZ := hid hz
        rw [if_pos hz]
        clear hz
        go_wp2
        go_ret2
        exact ⟨A3, k3, M3, rfl, by rw [HIT.out, HX.out, if_pos HZ.out], own_laterS HOW.out HB4.out, HNW.out.step HB4.out, Below.step' HB2.out HB4.out⟩
      · have HZ := hid hz
        rw [if_neg hz]
        clear hz
        go_wp2
        go_ret2
        exact itsErr_nil' (by rw [HX.out, if_neg HZ.out]) rfl (Below.step' HB2.out HB4.out)

theorem keepA {B b : Nat} {W w : World} {o : Obj} (hb : b < w.heap.size) (hB : B ≤ w.heap.size) (h : ∀ o, w.cell? ⟨b, o, none⟩ = W.cell? ⟨b, o, none⟩) (h2 : Below B W w) : (∀ x, (w.alloc o).cell? ⟨b, x, none⟩ = W.cell? ⟨b, x, none⟩) ∧ Below B W (w.alloc o) :=
  ⟨fun x => ((bcell ((Below.refl w.heap.size w).alloc (Nat.le_refl _) o)).1 b x hb).trans (h x), h2.alloc hB o⟩
theorem keepG {w w' : World} {r : Option Nat} (hg : w.grownBy w' r) {b : Nat} (hb : b < w.heap.size) (hr : some b = r → False) (o : Nat) : w'.cell? ⟨b, o, none⟩ = w.cell? ⟨b, o, none⟩ :=
  World.cell?_of_block (w := w) (hg.block b hb hr)

set_option maxHeartbeats 2000000 in
set_option maxRecDepth 100000 in
theorem neg_any (M : List IR) (A : Option Addr) (c : Nat) (w : World) (hr : RowI w w.heap.size A M) (hl : M.length ≤ 9223372036854775807) :
    Calls Tryz.prog 10 #[.slice A M.length c] w (ItsErr (negX (its M)) (setI (its M)) w) := by
  have HK := hid (zcheck_any M A c w hr hl)
  have HR := hid hr
  clear hr
  have HX := hid (show negX (its M) = if setI (its M) = 0 then negL (its M) else [] from rfl)
  have HL : Hid (setI (its M) = 0 → M.length ≤ 400 ∧ (∀ x ∈ M, x.row.length ≤ 8 ∧ -1048576 ≤ x.n ∧ x.n ≤ 1048576)) := hid fun h => ⟨len_set h, fun x hx => badB_false ((setI_zero.1 h).2.1 x.it (List.mem_map.2 ⟨x, hx, rfl⟩))⟩
  obtain ⟨E, hE⟩ : ∃ E, E = setI (its M) := ⟨_, rfl⟩
  rw [← hE] at HX HK HL ⊢
  clear hE
  obtain ⟨X, hX⟩ : ∃ X, X = negX (its M) := ⟨_, rfl⟩
  rw [← hX] at HX ⊢
  clear hX
  by_cases q1 : E = 0
  rotate_left
  · have t1 : (E != 0) = true := by simpa using q1
    have HQ := hid q1
    clear q1
    go_enter Tryz.func10, Tryz.ntmps10
    go_wp2_with (go_at_call 18; refine HK.out.mono ?_; rintro e w1 ⟨rfl, hb1⟩)
    go_ret2
    exact itsErr_nil' (by rw [HX.out, if_neg HQ.out]) rfl hb1
  · subst q1
    obtain ⟨l1, n1⟩ := HL.out (by first | rfl | trivial)
    have HN := hid n1
    replace HX : Hid (X = negL (its M)) := hid (by rw [HX.out, if_pos rfl])
    clear n1 HL
    go_enter Tryz.func10, Tryz.ntmps10
    go_wp2_with fail
    refine HK.out.mono ?_
    rintro e w1 ⟨rfl, hb1⟩
    have HB1 := hid hb1
    have HR1 := hid (HR.out.step hb1)
    have hs1 := hb1.size
    clear hb1 HK
    go_wp2_with fail
    go_loopw [5, 15] (fun s5 s15 wr => ∃ (i : Nat) (S : List IR), i ≤ M.length ∧ s15 = .int .i64 i ∧ S.length = i ∧ Hid (its S = negL (its (M.take i))) ∧ Hid (wr.ownsRow w1.heap.size 67 2 s5 S.length (rcells S)) ∧ Hid (RowsNew wr w1.heap.size s5 S) ∧ Hid (Below w1.heap.size w1 wr)) (fun _ s15 _ => M.length - (intOf s15).toNat)
    case atStart => exact ⟨0, [], by omega, rfl, rfl, hid (by simp [its, negL]), hid (World.ownsRow_nil _ _ _ _), hid (RowsNew.nil _ _ _), hid (Below.refl _ _)⟩
    case round =>
      obtain ⟨i, S, hi, rfl, hSi, HIS, HOWN, HNEW, HB⟩ := hrel
      obtain ⟨A6, c6, rfl⟩ := own_formS HOWN.out
      have HSI := hid hSi
      by_cases hlt : i < M.length
      · have HRR := hid (HR1.out.step HB.out)
        obtain ⟨b, off, rfl, hb, h0, h1⟩ := HRR.out.1.it hlt
        have hmem := List.getElem_mem hlt
        obtain ⟨hx1, hx2, hx3⟩ := HN.out _ hmem
        have hrw := (HRR.out.2 _ hmem).1
        have HST := hid (show its (M.take (i + 1)) = its (M.take i) ++ [M[i].it] by rw [List.take_succ_eq_append_getElem hlt, its, List.map_append]; rfl)
        clear hmem
        generalize M[i] = x at *
        obtain ⟨xr, xA, xk, xn⟩ := x
        simp only at h0 h1 hx1 hx2 hx3 hrw
        obtain ⟨W, hW⟩ : ∃ W : World, W = wr.alloc (.cells #[.slice xA xr.length xk, .int .i64 xn] 67) := ⟨_, rfl⟩
        have hWB : Below wr.heap.size wr W := by rw [hW]; exact alloc_below (Below.refl _ _) _
        have HWX := hid (show Blk W wr.heap.size #[.slice xA xr.length xk, .int .i64 xn] 67 by rw [hW]; exact Blk.new _ _ _)
        have HCL := hid (fun w2 (hb : Below W.heap.size W w2) => cloneI_any xr xA xk w2 (hrw.step (Below.step' hWB hb)) (by omega))
        have HOW2 := hid (own_laterS HOWN.out hWB)
        have HNW2 := hid (HNEW.out.step hWB)
        have HB2 := hid (Below.step' HB.out hWB)
        have hsW := hWB.size
        have hlS : S.length ≤ 400 := by omega
        have hsB := HB.out.size
        have wn : IntKind.i64.wrap (-xn) = -xn := IntWalk.i64_in _ (by omega)
        clear hWB hrw
        have HWW := hid hW
        go_wp2_with fail
        rw [← hW]
        clear hW h0 h1 hb hSi
        -- STOP-n
        obtain ⟨cx, fx, sx, nx⟩ := HWX.out.all
        have hmx : S.length + 1 ≤ maxLen := by simp only [maxLen]; omega
        have hby : (S.length + 1) * 32 ≤ 140737488355328 := by omega
        go_upto_region 8 with fail
        have hbx : wr.heap.size < W.heap.size := HWX.out.lt
        have hw1W : w1.heap.size ≤ W.heap.size := by omega
        go_region_held3 (fun w' => (∀ o, w'.cell? ⟨wr.heap.size, o, none⟩ = W.cell? ⟨wr.heap.size, o, none⟩) ∧ Below w1.heap.size W w')
          ((go_split_ands; first | (with_reducible exact ⟨fun _ => rfl, (Below.refl _ _).drew⟩) | (with_reducible exact ⟨y5, z5⟩) | (with_reducible exact keepA hbx5 hs15 y5 z5) | (with_reducible exact ⟨y6, z6⟩)))
          (first
            | (go_split_ands; go_at_call 40; (with_reducible refine (HCL.out _ (Below.refl _ _).drew).mono ?_); rintro e w5 ⟨A5, c5, rfl, hrow5, hnew5, hin5, hb5⟩; have hB5 : Below W.heap.size W w5 := Below.step' (Below.refl _ _).drew hb5; have hs5 := hB5.size; have how5 := own_laterS HOW2.out hB5; have hnw5 := HNW2.out.step hB5; have y5 := fun o => (bcell hB5).1 wr.heap.size o hbx; have z5 : Below w1.heap.size W w5 := hB5.mono hw1W; have hbx5 : wr.heap.size < w5.heap.size := Nat.lt_of_lt_of_le hbx hs5; have hs15 : w1.heap.size ≤ w5.heap.size := Nat.le_trans hw1W hs5)
            | (go_split_ands; refine step_append_row elem_item (by rfl) _ _ (by rfl) w1.heap.size (.slice A6 S.length c6) S.length (rcells S) (by rfl) (World.ownsRow.alloc how5 _) (some ⟨w5.heap.size, 0, none⟩) 1 1 (w5.heap.size + 1) [.slice A5 xr.length c5, .int .i64 (-xn)] (by rfl) (by rfl) (Row.new' _ _ _ rfl rfl (Nat.lt_succ_self _)) (rcells_one [⟨xr, A5, c5, -xn⟩]) hmx hby (Nat.le_trans hs15 (le_alloc _ _)) ?_; intro v6 w6 hown6 hg6 hif6; obtain ⟨A8, c8, rfl⟩ := own_formS hown6; have hz5 : w1.heap.size ≤ (w5.alloc (.cells #[.slice A5 xr.length c5, .int .i64 (-xn)] 67)).heap.size := Nat.le_trans hs15 (le_alloc _ _); have hy5 : wr.heap.size < (w5.alloc (.cells #[.slice A5 xr.length c5, .int .i64 (-xn)] 67)).heap.size := Nat.lt_of_lt_of_le hbx5 (le_alloc _ _); have z6 : Below w1.heap.size W w6 := (z5.alloc hs15 _).grown hg6 hz5 (fun g e => (how5.lt g e).1); have y6 : ∀ o, w6.cell? ⟨wr.heap.size, o, none⟩ = W.cell? ⟨wr.heap.size, o, none⟩ := fun o => (keepG hg6 hy5 (fun e => Nat.lt_irrefl _ (HOWN.out.lt _ e.symm).2) o).trans ((keepA hbx5 hs15 y5 z5).1 o)))
        -- STOP-p
        all_goals
          go_wp2
          have HNEW9 := hid ((hnw5.step (alloc_below (Below.refl _ _) (.cells #[.slice A5 xr.length c5, .int .i64 (-xn)] 67))).grown hg6 hif6)
          have HROW9 := hid (hrow5.step (alloc_below (Below.refl _ _) (.cells #[.slice A5 xr.length c5, .int .i64 (-xn)] 67)))
          have HLO : Hid (NewAt w1.heap.size A5) := hid (fun b off q e => by have := hnew5 b off q e; simp at this; omega)
          have HA5 : Hid (∀ b off q, A5 = some ⟨b, off, q⟩ → some b ≠ (Value.slice A6 S.length c6).ownBlock) := hid (fun b off q e e2 => by
            have q1 := hnew5 b off q e
            have q2 := (HOWN.out.lt b e2.symm).2
            simp at q1
            omega)
          have HIN := hid hin5
          have HIF := hid hif6
          have HG6 := hid hg6
          have HO6 := hid hown6
          have Z6 := hid z6
          clear hown6 hg6 hif6 hin5 hrow5 hnew5 hnw5 how5 y5 y6 z5 z6
          go_roundw
          case rel =>
            have hr9 := (HROW9.out.grown_ne (Nat.le_refl _) HG6.out HA5.out).more HG6.out.size
            refine ⟨i + 1, S ++ [⟨xr, A5, c5, -xn⟩], by omega, by go_num, by have := HSI.out; simp; omega, hid ?_, ?_, hid ?_, hid (HB2.out.trans Z6.out)⟩
            · rw [HST.out]
              show (S ++ [(⟨xr, A5, c5, -xn⟩ : IR)]).map IR.it = _
              rw [List.map_append, show S.map IR.it = its S from rfl, HIS.out, negL, negL, List.map_append]
              rfl
            · rw [rcells_snoc, List.length_append]
              exact HO6
            · refine RowsNew.snoc HNEW9.out (x := (⟨xr, A5, c5, -xn⟩ : IR)) hr9 HLO.out (fun b off q e => ?_) (by simp only; omega)
              · have hlt9 := HIN.out b off q e
                have hsz7 := HG6.out.size
                simp at hsz7
                refine ⟨?_, by omega⟩
                rcases HIF.out with h | h
                · rw [h]; exact HA5.out b off q e
                · rw [h]; intro e2; injection e2 with e2; simp at e2; omega
          case measure => simp [intOf]; omega
      · have hf : M.take i = M := List.take_of_length_le (by omega)
        have HF : Hid (its S = X) := hid (by rw [HIS.out, hf, HX.out])
        clear hf
        go_wp2
        go_ret2
        exact ⟨A6, c6, S, rfl, HF.out, own_baseS HOWN.out (by omega), fun x hx => by
          obtain ⟨q1, q2, q3, q4⟩ := HNEW.out x hx
          exact ⟨q1, newAt_le q2 (by omega), q3, q4⟩, Below.step' HB1.out HB.out⟩
end Go.Proofs.YtldlmkfigjicgaaGreatDoor
/- slices.Equal at int, EqualFunc at Item, viewref.SameSet. -/
namespace Go.Proofs.YtldlmkfigjicgaaGreatDoor
set_option linter.unusedVariables false
set_option linter.unusedSimpArgs false
open Go.ChangeShapes Go.WideShapes Go.ChangeAt Go.RowKit

set_option maxHeartbeats 400000 in
set_option maxRecDepth 100000 in
theorem equalN_any (l m : List Int) (A B : Option Addr) (c e : Nat) (w : World) (hr : Row w w.heap.size A (icells' l)) (hs : Row w w.heap.size B (icells' m)) (hl : l.length ≤ 9223372036854775807) (hm : m.length ≤ 9223372036854775807) :
    Calls Tryz.prog 53 #[.slice A l.length c, .slice B m.length e] w fun e w' => e = .returned (.bool (decide (l = m))) ∧ Below w.heap.size w w' := by
  have HR := hid hr
  have HS := hid hs
  clear hr hs
  by_cases hlen : l.length = m.length
  · have hne : ((l.length : Int) != (m.length : Int)) = false := by simp [hlen]
    have HL := hid hlen
    clear hlen
    go_enter Tryz.func53, Tryz.ntmps53
    go_wp2
    go_loopw [13] (fun i wr => (∃ k : Nat, k ≤ l.length ∧ i = .int .i64 k ∧ ∀ j (h : j < l.length) (h' : j < m.length), j < k → l[j] = m[j]) ∧ Below w.heap.size w wr) (fun i _ => l.length - (intOf i).toNat)
    case atStart => exact ⟨⟨0, by omega, rfl, fun j _ _ h => absurd h (by omega)⟩, Below.refl _ _⟩
    case round =>
      obtain ⟨⟨k, hk, rfl, hno⟩, hbw⟩ := hrel
      by_cases hlt : k < l.length
      · have hlt' : k < m.length := by have := HL.out; omega
        obtain ⟨b, off, rfl, hb, h0⟩ := (HR.out.below hbw (Nat.le_refl _)).int' hlt
        obtain ⟨b', off', rfl, hb', h0'⟩ := (HS.out.below hbw (Nat.le_refl _)).int' hlt'
        have HN := hid hno
        have HB := hid hbw
        clear hno hbw
        generalize hd : l[k] = d at *
        generalize hd' : m[k] = d' at *
        have HD := hid hd
        have HD' := hid hd'
        clear hd hd'
        by_cases hq : d = d'
        · have q : (d != d') = false := by simp [hq]
          have HQ := hid hq
          clear hq
          go_wp2
          refine wp_region_quiet_lit (by kernel_rfl) (by kernel_rfl) ?_
          repeat (any_goals ((with_reducible refine wpQuiet_step (fun K hK => ?_)); go_simp; first | (with_reducible refine hK _ ?_; clear hK K) | ((with_reducible apply Exists.intro); (with_reducible refine ⟨fun _ => ?_, hK _ ?_⟩); (fail); clear hK K) | ((with_reducible refine (if_neg ?_).mpr (hK _ ?_)); (decide); clear hK K) | (split <;> (with_reducible refine hK _ ?_; clear hK K))))
          all_goals ((with_reducible refine wpQuiet_nil ?_); intro _ hw'; obtain ⟨nq, hw''⟩ := hw'; subst hw'')
          go_wp2
          go_roundw
          case rel =>
            refine ⟨⟨k + 1, by omega, by go_num, fun j h h' hj => ?_⟩, below_drewN HB.out _⟩
            by_cases e : j = k
            · subst e; rw [HD.out, HD'.out]; exact HQ.out
            · exact HN.out j h h' (by omega)
          case measure => simp [intOf]; omega
        · have q : (d != d') = true := by simp [hq]
          have HQ := hid hq
          clear hq
          go_wp2
          refine wp_region_quiet_lit (by kernel_rfl) (by kernel_rfl) ?_
          repeat (any_goals ((with_reducible refine wpQuiet_step (fun K hK => ?_)); go_simp; first | (with_reducible refine hK _ ?_; clear hK K) | ((with_reducible apply Exists.intro); (with_reducible refine ⟨fun _ => ?_, hK _ ?_⟩); (fail); clear hK K) | ((with_reducible refine (if_neg ?_).mpr (hK _ ?_)); (decide); clear hK K) | (split <;> (with_reducible refine hK _ ?_; clear hK K))))
          all_goals ((with_reducible refine wpQuiet_nil ?_); intro _ hw'; obtain ⟨nq, hw''⟩ := hw'; subst hw'')
          go_wp2
          go_ret
          refine ⟨ret_bool ?_, below_drewN HB.out _⟩
          symm
          rw [decide_eq_false_iff_not]
          rintro rfl
          exact HQ.out (HD.out.symm.trans HD'.out)
      · go_wp2
        go_ret
        refine ⟨ret_bool ?_, hbw⟩
        have : l = m := List.ext_getElem HL.out fun j h h' => hno j h h' (by omega)
        simp [this]
  · have hne : ((l.length : Int) != (m.length : Int)) = true := by simp; omega
    go_enter Tryz.func53, Tryz.ntmps53
    go_wp2
    go_ret
    exact ⟨ret_bool (by symm; simp; rintro rfl; exact hlen rfl), Below.refl _ _⟩


set_option maxHeartbeats 400000 in
set_option maxRecDepth 100000 in
theorem same1_any (x y : IR) (w : World) (hx : Row w w.heap.size x.A (icells' x.row)) (hxl : x.row.length ≤ 9223372036854775807) (hy : Row w w.heap.size y.A (icells' y.row)) (hyl : y.row.length ≤ 9223372036854775807) :
    Calls Tryz.prog 52 #[.agg x.cells.toArray, .agg y.cells.toArray] w fun e w' => e = .returned (.bool (decide (x.it = y.it))) ∧ Below w.heap.size w w' := by
  obtain ⟨xr, xA, xk, xn⟩ := x
  obtain ⟨yr, yA, yk, yn⟩ := y
  simp only at hx hxl hy hyl
  have HC := hid (fun w1 (hb : Below w.heap.size w w1) => equalN_any xr yr xA yA xk yk w1 (hx.step hb) (hy.step hb) hxl hyl)
  clear hx hy
  have HX : Hid (decide (IR.it ⟨xr, xA, xk, xn⟩ = IR.it ⟨yr, yA, yk, yn⟩) = (decide (xn = yn) && decide (xr = yr))) := hid (by
    simp only [IR.it, Prod.mk.injEq]
    by_cases h1 : xr = yr <;> by_cases h2 : xn = yn <;> simp [h1, h2])
  obtain ⟨R, hR⟩ : ∃ R, R = decide (IR.it ⟨xr, xA, xk, xn⟩ = IR.it ⟨yr, yA, yk, yn⟩) := ⟨_, rfl⟩
  rw [← hR] at HX ⊢
  clear hR
  obtain ⟨rb, hrb⟩ : ∃ b, b = decide (xr = yr) := ⟨_, rfl⟩
  rw [← hrb] at HC HX
  clear hrb
  simp only [IR.cells]
  by_cases h : xn = yn
  · have t1 : (xn == yn) = true := by simp [h]
    have HD : Hid (R = rb) := hid (by rw [HX.out, decide_eq_true h]; rfl)
    clear h
    go_enter Tryz.func52, Tryz.ntmps52
    go_wp2_with fail
    refine (HC.out _ (by (repeat' (first | (with_reducible exact Below.refl _ _) | (with_reducible assumption) | (with_reducible refine below_drewN ?_ _) | (with_reducible refine Below.drew ?_) | (with_reducible refine Below.alloc ?_ ?_ _) | (with_reducible refine Below.setCell ?_ ?_ _) | (refine Below.trans ?_ (Below.mono (by assumption) ?_)) | go_size)))).mono ?_
    rintro e w1 ⟨rfl, hb1⟩
    have hB1 : Below w.heap.size w w1 := (by refine Below.step' ?_ hb1; (repeat' (first | (with_reducible exact Below.refl _ _) | (with_reducible assumption) | (with_reducible refine below_drewN ?_ _) | (with_reducible refine Below.drew ?_) | (with_reducible refine Below.alloc ?_ ?_ _) | (with_reducible refine Below.setCell ?_ ?_ _) | (refine Below.trans ?_ (Below.mono (by assumption) ?_)) | go_size)))
    clear hb1
    go_wp2
    go_ret
    exact ⟨ret_bool HD.out.symm, hB1⟩
  · have t1 : (xn == yn) = false := by simp [h]
    have HD : Hid (R = false) := hid (by rw [HX.out, decide_eq_false h]; rfl)
    clear h
    go_enter Tryz.func52, Tryz.ntmps52
    go_wp2
    go_ret
    exact ⟨ret_bool HD.out.symm, by (repeat' (first | (with_reducible exact Below.refl _ _) | (with_reducible assumption) | (with_reducible refine below_drewN ?_ _) | (with_reducible refine Below.drew ?_) | (with_reducible refine Below.alloc ?_ ?_ _) | (with_reducible refine Below.setCell ?_ ?_ _) | (refine Below.trans ?_ (Below.mono (by assumption) ?_)) | go_size))⟩
theorem enters_same1 : ∀ args w, (callFunc 52 args).run Tryz.prog w = .ok (.enter 52 args) w := enters_of Tryz.func52 (by kernel_rfl) rfl

set_option maxHeartbeats 1000000 in
set_option maxRecDepth 100000 in
theorem equalFunc_any (M1 M2 : List IR) (A1 A2 : Option Addr) (c1 c2 : Nat) (w : World) (hr1 : RowI w w.heap.size A1 M1) (hl1 : M1.length ≤ 9223372036854775807) (hr2 : RowI w w.heap.size A2 M2) (hl2 : M2.length ≤ 9223372036854775807) :
    Calls Tryz.prog 51 #[.slice A1 M1.length c1, .slice A2 M2.length c2, .func (.func 52) #[] #[]] w fun e w' => e = .returned (.bool (decide (its M1 = its M2))) ∧ Below w.heap.size w w' := by
  have HR1 := hid hr1
  have HR2 := hid hr2
  have eg := enters_same1
  clear hr1 hr2
  obtain ⟨R, hR⟩ : ∃ R, R = decide (its M1 = its M2) := ⟨_, rfl⟩
  rw [← hR]
  have HRR := hid hR
  clear hR
  by_cases hlen : M1.length = M2.length
  · have hne : ((M1.length : Int) != (M2.length : Int)) = false := by simp [hlen]
    have HL := hid hlen
    clear hlen
    go_enter Tryz.func51, Tryz.ntmps51
    go_wp2_with fail
    go_loopw [17] (fun s17 wr => ∃ k : Nat, k ≤ M1.length ∧ s17 = .int .i64 k ∧ Hid (∀ j (h : j < M1.length) (h' : j < M2.length), j < k → M1[j].it = M2[j].it) ∧ Hid (Below w.heap.size w wr)) (fun s17 _ => M1.length - (intOf s17).toNat)
    case atStart => exact ⟨0, by omega, rfl, hid (fun j _ _ h => by omega), hid (Below.refl _ _)⟩
    case round =>
      obtain ⟨k, hk, rfl, HNO, HB⟩ := hrel
      by_cases hlt : k < M1.length
      · have hlt' : k < M2.length := by have := HL.out; omega
        have HS1 := hid (HR1.out.step HB.out)
        have HS2 := hid (HR2.out.step HB.out)
        obtain ⟨b, off, rfl, hb, h0, h1⟩ := HS1.out.1.it hlt
        obtain ⟨b', off', rfl, hb', h0', h1'⟩ := HS2.out.1.it hlt'
        have q1 := HS1.out.2 _ (List.getElem_mem hlt)
        have q2 := HS2.out.2 _ (List.getElem_mem hlt')
        have HXY : Hid (∀ j (h : j < M1.length) (h' : j < M2.length), j = k → (M1[j].it = M2[j].it) = (M1[k].it = M2[k].it)) := hid (fun j h h' e => by subst e; rfl)
        generalize M1[k] = x at *
        generalize M2[k] = y at *
        have HCL := hid (fun w1 (hb : Below wr.heap.size wr w1) => same1_any x y w1 (q1.1.step hb) q1.2 (q2.1.step hb) q2.2)
        clear q1 q2
        obtain ⟨bq, hbq⟩ : ∃ q, q = decide (x.it = y.it) := ⟨_, rfl⟩
        rw [← hbq] at HCL
        have HBQ := hid hbq
        clear hbq
        obtain ⟨xr, xA, xk, xn⟩ := x
        obtain ⟨yr, yA, yk, yn⟩ := y
        simp only [IR.cells] at h0 h1 h0' h1' HCL
        have hnb : (b' = wr.heap.size) = False := by simp; omega
        cases bq
        · have HD : Hid (R = false) := hid (by
            rw [HRR.out, decide_eq_false_iff_not]
            intro e
            have h3 : (its M1)[k]? = (its M2)[k]? := by rw [e]
            rw [List.getElem?_eq_getElem (by rw [its_len]; exact hlt), List.getElem?_eq_getElem (by rw [its_len]; exact hlt')] at h3
            simp only [its, List.getElem_map, Option.some.injEq] at h3
            rw [HXY.out k hlt hlt' rfl] at h3
            have := HBQ.out
            rw [decide_eq_true h3] at this
            cases this)
          go_wp2_with fail
          refine (HCL.out _ (by (repeat' (first | (with_reducible exact Below.refl _ _) | (with_reducible assumption) | (with_reducible refine below_drewN ?_ _) | (with_reducible refine Below.drew ?_) | (with_reducible refine Below.alloc ?_ ?_ _) | (with_reducible refine Below.setCell ?_ ?_ _) | (refine Below.trans ?_ (Below.mono (by assumption) ?_)) | go_size)))).mono ?_
          rintro e w1 ⟨rfl, hb1⟩
          have hB1 : Below wr.heap.size wr w1 := (by refine Below.step' ?_ hb1; (repeat' (first | (with_reducible exact Below.refl _ _) | (with_reducible assumption) | (with_reducible refine below_drewN ?_ _) | (with_reducible refine Below.drew ?_) | (with_reducible refine Below.alloc ?_ ?_ _) | (with_reducible refine Below.setCell ?_ ?_ _) | (refine Below.trans ?_ (Below.mono (by assumption) ?_)) | go_size)))
          clear hb1
          go_wp2
          go_ret
          exact ⟨ret_bool HD.out.symm, Below.step' HB.out hB1⟩
        · go_wp2_with fail
          refine (HCL.out _ (by (repeat' (first | (with_reducible exact Below.refl _ _) | (with_reducible assumption) | (with_reducible refine below_drewN ?_ _) | (with_reducible refine Below.drew ?_) | (with_reducible refine Below.alloc ?_ ?_ _) | (with_reducible refine Below.setCell ?_ ?_ _) | (refine Below.trans ?_ (Below.mono (by assumption) ?_)) | go_size)))).mono ?_
          rintro e w1 ⟨rfl, hb1⟩
          have hB1 : Below wr.heap.size wr w1 := (by refine Below.step' ?_ hb1; (repeat' (first | (with_reducible exact Below.refl _ _) | (with_reducible assumption) | (with_reducible refine below_drewN ?_ _) | (with_reducible refine Below.drew ?_) | (with_reducible refine Below.alloc ?_ ?_ _) | (with_reducible refine Below.setCell ?_ ?_ _) | (refine Below.trans ?_ (Below.mono (by assumption) ?_)) | go_size)))
          have HB1 := hid hB1
          clear hb1 hB1
          go_wp2
          go_roundw
          case rel =>
            refine ⟨k + 1, by omega, by go_num, hid (fun j h h' hj => ?_), hid (Below.step' HB.out HB1.out)⟩
            by_cases e : j = k
            · rw [HXY.out j h h' e]; exact of_decide_eq_true HBQ.out.symm
            · exact HNO.out j h h' (by omega)
          case measure => simp [intOf]; omega
      · have HD : Hid (R = true) := hid (by
          rw [HRR.out, decide_eq_true_eq]
          refine List.ext_getElem (by rw [its_len, its_len]; exact HL.out) fun j h h' => ?_
          simp only [its, List.getElem_map]
          rw [its_len] at h h'
          exact HNO.out j h h' (by omega))
        go_wp2
        go_ret
        exact ⟨ret_bool HD.out.symm, HB.out⟩
  · have hne : ((M1.length : Int) != (M2.length : Int)) = true := by simp; omega
    have HD : Hid (R = false) := hid (by
      rw [HRR.out, decide_eq_false_iff_not]
      intro e
      exact hlen (by rw [← its_len M1, ← its_len M2, e]))
    go_enter Tryz.func51, Tryz.ntmps51
    go_wp2
    go_ret
    exact ⟨ret_bool HD.out.symm, Below.refl _ _⟩

set_option maxRecDepth 100000 in
theorem sameSet_any (M1 M2 : List IR) (A1 A2 : Option Addr) (c1 c2 : Nat) (w : World) (hr1 : RowI w w.heap.size A1 M1) (hl1 : M1.length ≤ 9223372036854775807) (hr2 : RowI w w.heap.size A2 M2) (hl2 : M2.length ≤ 9223372036854775807) :
    Calls Tryz.prog 19 #[.slice A1 M1.length c1, .slice A2 M2.length c2] w fun e w' => e = .returned (.bool (decide (its M1 = its M2))) ∧ Below w.heap.size w w' := by
  have HC := hid (equalFunc_any M1 M2 A1 A2 c1 c2 w hr1 hl1 hr2 hl2)
  clear hr1 hr2
  obtain ⟨R, hR⟩ : ∃ R, R = decide (its M1 = its M2) := ⟨_, rfl⟩
  rw [← hR] at HC ⊢
  clear hR
  go_enter Tryz.func19, Tryz.ntmps19
  go_wp2_with fail
  refine HC.out.mono ?_
  rintro e w1 ⟨rfl, hb1⟩
  go_wp2
  go_ret
  exact ⟨rfl, hb1⟩

end Go.Proofs.YtldlmkfigjicgaaGreatDoor
