/- ToA, RsB, RsC, PnV -/
import Derived.Test.YtldlmkfigjicgaaGreatDoorIncPlaysCardS19
import Derived.Deep.RegionLaw
/- viewref.Total. -/
namespace Go.Proofs.YtldlmkfigjicgaaGreatDoor
set_option linter.unusedVariables false
set_option linter.unusedSimpArgs false
open Go.ChangeShapes Go.WideShapes Go.ChangeAt Go.RowKit

theorem elem_rowint : Elem Tryz.prog 130 30 1 24 := ⟨Tryz.underlying130, by
  obtain ⟨i, hi, hz, hs, hb⟩ := info_parts (P := Tryz.prog) (e := 30) (z := .slice none 0 0) (size := 1) (bytes := 24) (by kernel_rfl)
  exact ⟨i, _, hi, hz, hs, hb, rfl⟩, by decide⟩
theorem Row.one {w : World} {B : Nat} {A : Option Addr} {L : List IR} (h : Row w B A (L.flatMap IR.one)) {k : Nat} (hk : k < L.length) :
    ∃ b off, A = some ⟨b, off, none⟩ ∧ b < B ∧ w.cell? ⟨b, off + k, none⟩ = some (.slice L[k].A L[k].row.length L[k].k) := by
  obtain ⟨b, off, h1, h2, h3⟩ := Row.flat IR.one_len h (by omega) hk
  have := h3 0 _ rfl
  rw [Nat.mul_one, Nat.add_zero] at this
  exact ⟨b, off, h1, h2, this⟩
theorem ownsMap_step {H : Type} {P : Program} {k : TypeId} {R : Value → Option (DataW H × List MemPlace)} {b n : Nat} {D : DataW H} {w w' : World} (h : w.ownsMap P k R b n D) (hb : Below w.heap.size w w') : w'.ownsMap P k R b n D :=
  h.kept (row := none) ⟨hb.os, hb.tape, hb.output, hb.size, fun k hk _ => hb.block k hk⟩ (by simp)
theorem icT_one (l : List Int) : ∀ u ∈ icells' l, u.oneCell' = true := by
  intro u hu
  obtain ⟨x, -, rfl⟩ := List.mem_map.1 hu
  rfl
/-- An item told anew. -/
structure TotNew (wj wX w7 : World) (v v7 : Value) (A : Option Addr) (r : List Int) (c : Nat) (n : Int) : Prop where
  b : Below wj.heap.size wj wX
  ro : RowOwn wX A r c
  hi : ∀ b off q, A = some ⟨b, off, q⟩ → wj.heap.size ≤ b ∧ b < wX.heap.size
  g : (wX.alloc (.cells #[.slice A r.length c, .int .i64 n] 67)).grownBy w7 v.ownBlock
  i : v7.ownBlock = v.ownBlock ∨ v7.ownBlock = some (wX.alloc (.cells #[.slice A r.length c, .int .i64 n] 67)).heap.size
/-- What is asked of a list to be totalled. -/
structure TotOk (M : List IR) : Prop where
  len : M.length ≤ 4194304
  row : ∀ x ∈ M, x.row.length ≤ 1048576
  num : ∀ x ∈ M, In64 x.row
set_option maxHeartbeats 8000000 in
set_option maxRecDepth 100000 in
theorem total_any (M : List IR) (A : Option Addr) (c : Nat) (w : World) (hr : RowI w w.heap.size A M) (hok : TotOk M) (ht : Pow w) :
    Calls Tryz.prog 64 #[.slice A M.length c] w (ItsPost (sumL (its M)) w) := by
  have HR := hid hr
  have HT := hid ht
  have HOK := hid hok
  have hlen := hok.len
  clear hr ht hok
  have hmm := @run_makeMap Tryz.prog
  go_enter Tryz.func64, Tryz.ntmps64
  go_wp2_with fail
  -- STOP-a
  clear hmm
  go_loopw [4] (fun s4 wr => ∃ i : Nat, i ≤ M.length ∧ s4 = .int .i64 i ∧ (∃ D : DataW Unit, Hid (SMap (wt ((its M).take i)) D) ∧ Hid (wr.ownsMap Tryz.prog 9 (plainElem Tryz.prog 3) w.heap.size i D)) ∧ Hid (Below w.heap.size w wr)) (fun s4 _ => M.length - (intOf s4).toNat)
  case atStart => exact ⟨0, by omega, rfl, ⟨_, hid SMap.nil, hid (World.ownsMap_made _ _ _ _)⟩, hid ((Below.refl _ _).alloc (Nat.le_refl _) _)⟩
  case round =>
    obtain ⟨i, hi, rfl, ⟨D, HSM, HOW⟩, HB⟩ := hrel
    obtain ⟨wo, rfl⟩ : ∃ wx : World, wx = wr := ⟨_, rfl⟩
    by_cases hlt : i < M.length
    · have t1 : ((i : Int) < (M.length : Int)) = True := eq_true (by omega)
      obtain ⟨b, off, rfl, hb, h0, h1⟩ := (HR.out.1.below HB.out (Nat.le_refl _)).it hlt
      have hmem := List.getElem_mem hlt
      have HROW := hid ((HR.out.2 _ hmem).1.below HB.out (Nat.le_refl _))
      have hrl := HOK.out.row _ hmem
      have hin := HOK.out.num _ hmem
      have HW := hid (fun q => wt_take_succ q (its M) (k := i) (by rw [its_len]; exact hlt))
      simp only [its, List.getElem_map, IR.it] at HW
      have hlt' : i < (its M).length := by rw [its_len]; exact hlt
      clear hmem
      generalize M[i].row = r at *
      generalize M[i].A = rA at *
      generalize M[i].k = rk at *
      generalize M[i].n = rn at *
      have hnl : (nameB r).length ≤ maxLen := by have := nameB_len hin; simp only [maxLen]; omega
      have HKY := hid (keyOf_N hnl)
      have HNM := hid (fun w1 (hb1 : Below wo.heap.size wo w1) => name_any r rA rk w1 ((HROW.out.more HB.out.size).step hb1) hrl hin (Pow.step HT.out (Below.step' HB.out hb1)))
      have hil : i < maxLen := by simp only [maxLen]; omega
      have HZ := hid (fun w1 => zero_int w1)
      have hbd : Below wo.heap.size wo wo.drew := (Below.refl _ _).drew
      have hbo : b < wo.heap.size := Nat.lt_of_lt_of_le hb HB.out.size
      go_wp2_with fail
      -- STOP-b
      go_region_law
        (first
          | (go_simp; go_at_call 90; (with_reducible refine (HNM.out _ hbd).mono ?_); rintro e w5 ⟨rfl, hb5⟩; have h05 := ((bcell (Below.step' hbd hb5)).1 b _ hbo).trans h0; have h15 := ((bcell (Below.step' hbd hb5)).1 b _ hbo).trans h1; obtain ⟨cc, hlk, hat, -⟩ := World.ownsMap.lookup_int (ownsMap_step HOW.out (Below.step' hbd hb5)) str_law Tryz.underlying128 Tryz.underlying3 (HZ.out w5) HKY.out; obtain ⟨w6, hup, how6, hg6⟩ := World.ownsMap.update (ownsMap_step HOW.out (Below.step' hbd hb5)) str_law Tryz.underlying128 hil HKY.out (plainElem_int Tryz.underlying3 (wf_i64' (wrp (cc + rn)) (wrp_wrp _)))))
      -- STOP-c
      all_goals
        go_wp2_with fail
        go_roundw
        case rel =>
          have hcc := HSM.out.at hat
          refine ⟨i + 1, by omega, by go_num, ⟨_, hid (HSM.out.put r (wrp (cc + rn)) fun q => ?_), hid how6⟩, hid ((Below.step' HB.out (Below.step' hbd hb5)).grown hg6 (Nat.le_trans HB.out.size (Nat.le_trans hbd.size hb5.size)) (fun g e => by injection e with e; omega))⟩
          rw [HW.out q, hcc]
          by_cases e : q = r
          · rw [if_pos e, if_pos e.symm, e]
          · rw [if_neg e, if_neg (Ne.symm e)]
        case measure => simp [intOf]; omega
    · have t1 : ((i : Int) < (M.length : Int)) = False := eq_false (by omega)
      have him : i = M.length := by omega
      have hsm := HSM.out
      rw [him, List.take_of_length_le (by rw [its_len]; exact Nat.le_refl _)] at hsm
      have HS := hid hsm
      clear HSM hsm him
      have hsz := HB.out.size
      go_wp2_with fail
      -- STOP-d
      go_loopw [5, 6] (fun s5 s6 wr => ∃ k : Nat, k ≤ M.length ∧ s6 = .int .i64 k ∧ Hid (wr.ownsRow wo.heap.size 30 1 s5 k ((M.take k).flatMap IR.one)) ∧ Hid (Below wo.heap.size wo wr)) (fun _ s6 _ => M.length - (intOf s6).toNat)
      case atStart => exact ⟨0, by omega, rfl, hid (World.ownsRow_nil _ _ _ _), hid (Below.refl _ _)⟩
      case round =>
        obtain ⟨k, hk, rfl, HOR, HBK⟩ := hrel
        obtain ⟨wk, rfl⟩ : ∃ wx : World, wx = wr := ⟨_, rfl⟩
        obtain ⟨A5, c5, rfl⟩ := own_formS HOR.out
        have hszk := HBK.out.size
        by_cases hkl : k < M.length
        · have t1 : ((k : Int) < (M.length : Int)) = True := eq_true (by omega)
          obtain ⟨b, off, rfl, hb, h0, -⟩ := (HR.out.1.below (Below.step' HB.out HBK.out) (Nat.le_refl _)).it hkl
          have HST := hid (show (M.take (k + 1)).flatMap IR.one = (M.take k).flatMap IR.one ++ [.slice M[k].A M[k].row.length M[k].k] by rw [List.take_succ_eq_append_getElem hkl, List.flatMap_append]; rfl)
          generalize M[k].row = r at *
          generalize M[k].A = rA at *
          generalize M[k].k = rk at *
          have hnb : b < wk.heap.size := by omega
          go_wp2_with (at_builtin; refine wpList_append_row elem_rowint rfl _ _ rfl wo.heap.size _ _ _ rfl (HOR.out.alloc _) (some ⟨wk.heap.size, 0, none⟩) 1 1 (wk.heap.size + 1) [.slice rA r.length rk] rfl rfl (Row.new' _ _ _ rfl rfl (Nat.lt_succ_self _)) (fun u hu => by rw [List.mem_singleton.1 hu]; rfl) ?_ ?_ ?_ ?_; rotate_right; intro v7 w7 hown7 hg7 hif7; rotate_left; (simp only [maxLen]; omega); (omega); (simp; omega))
          -- STOP-e
          go_roundw
          case rel =>
            refine ⟨k + 1, by omega, by go_num, ?_, hid ((HBK.out.alloc hszk _).grown hg7 (by simp; omega) (fun g e => (HOR.out.lt g e).1))⟩
            rw [HST.out]
            exact hid hown7
          case measure => simp [intOf]; omega
        · have t1 : ((k : Int) < (M.length : Int)) = False := eq_false (by omega)
          have hkm : k = M.length := by omega
          subst hkm
          have hor := HOR.out
          rw [List.take_of_length_le (Nat.le_refl _)] at hor
          have HQ := fun x (hx : x ∈ M) => show RowQ wk wo.heap.size x from ⟨((HR.out.2 x hx).1.below (Below.step' HB.out HBK.out) (Nat.le_refl _)).more hsz, (HR.out.2 x hx).2⟩
          have HSO := hid (sortRows_own M wk hor HQ hszk (by omega))
          have HOR2 := hid hor
          clear hor HQ HOR
          go_wp2_with fail
          -- STOP-f
          refine HSO.out.mono ?_
          rintro e w2 ⟨rfl, L', hperm, hris, hown2, hg2⟩
          have HB1 := hid (Below.step' HB.out HBK.out)
          have HB2 := hid (HB1.out.grown hg2 HB1.out.size (fun g e => Nat.le_trans hsz (HOR2.out.lt g e).1))
          have HRS := hid hris
          have hln : L'.length = M.length := hperm.length_eq
          have HRX := hid (show Row w2 w2.heap.size A5 (L'.flatMap IR.one) from Row.of_ownS hown2)
          have hs2 : w.heap.size ≤ w2.heap.size := HB2.out.size
          have HRB : Hid (∀ x ∈ L', (Row w2 w2.heap.size x.A (icells' x.row) ∧ x.row.length ≤ 1048576) ∧ In64 x.row) := hid (fun x hx =>
            have hm := hperm.mem_iff.1 hx
            ⟨⟨((HR.out.2 x hm).1.below HB2.out (Nat.le_refl _)).more hs2, HOK.out.row x hm⟩, HOK.out.num x hm⟩)
          have HEND := hid (fun S (h : TotI (wt (its M)) (L'.map IR.row) (L'.map IR.row).length S) => totI_end h (fun x hx => by
            obtain ⟨y, hy, rfl⟩ := List.mem_map.1 hx
            exact List.mem_map.2 ⟨y, hperm.mem_iff.2 hy, rfl⟩))
          have HOW2 := hid ((ownsMap_step HOW.out HBK.out).kept hg2 (fun e => by have := (HOR2.out.lt _ e.symm).1; have := HOW.out.lt; omega))
          have HFW := hid (fun r => show wrp (wt (its M) r) = wt (its M) r from wrp_wrp _)
          have HT2 := hid (Pow.step HT.out HB2.out)
          obtain ⟨F, hF⟩ : ∃ F, F = wt (its M) := ⟨_, rfl⟩
          rw [← hF] at HS HEND HFW
          clear hF hperm hris hown2 hg2 HSO HOR2 HB1 HBK HB HR HOK hlt hi hk
          go_wp2_with fail
          -- STOP-g
          have HLN := hid hln
          clear hln
          go_loopw [7, 8] (fun s7 s8 wr => ∃ (j : Nat) (S : List IR), j ≤ M.length ∧ s8 = .int .i64 j ∧ S.length ≤ j ∧ Hid (TotI F (L'.map IR.row) j (its S)) ∧ Hid (wr.ownsRow w2.heap.size 67 2 s7 S.length (rcells S)) ∧ Hid (RowsNew wr w2.heap.size s7 S) ∧ Hid (Below w2.heap.size w2 wr)) (fun _ s8 _ => M.length - (intOf s8).toNat)
          case atStart => exact ⟨0, [], by omega, rfl, by simp, hid (totI_nil _ _), hid (World.ownsRow_nil _ _ _ _), hid (RowsNew.nil _ _ _), hid (Below.refl _ _)⟩
          case round =>
            obtain ⟨j, S, hj, rfl, hSj, HTI, HOWN, HNEW, HB⟩ := hrel
            obtain ⟨wj, rfl⟩ : ∃ wx : World, wx = wr := ⟨_, rfl⟩
            obtain ⟨A7, c7, rfl⟩ := own_formS HOWN.out
            have hs3 := HB.out.size
            by_cases hlt : j < M.length
            · have t1 : ((j : Int) < (M.length : Int)) = True := eq_true (by omega)
              have hlt' : j < L'.length := by have := HLN.out; omega
              have HRXo := hid (HRX.out.step HB.out)
              obtain ⟨b, off, rfl, hb, h0⟩ := HRXo.out.one hlt'
              have hmem := List.getElem_mem hlt'
              have HROW := hid ((HRB.out _ hmem).1.1.step HB.out)
              have hrl := (HRB.out _ hmem).1.2
              have HIN := hid (HRB.out _ hmem).2
              have HPRE : Hid (∀ h : 0 < j, ∃ (y : List Int) (yA : Option Addr) (yk : Nat), wj.cell? ⟨b, off + (j - 1), none⟩ = some (.slice yA y.length yk) ∧ Row wj wj.heap.size yA (icells' y) ∧ y.length ≤ 1048576 ∧ y = L'[j - 1].row) := hid fun h => by
                obtain ⟨b2, off2, hA2, hb2, g0⟩ := HRXo.out.one (show j - 1 < L'.length by omega)
                injection hA2 with hA2
                injection hA2 with hA3 hA4
                subst hA3
                subst hA4
                have hm2 := List.getElem_mem (show j - 1 < L'.length by omega)
                exact ⟨L'[j - 1].row, L'[j - 1].A, L'[j - 1].k, g0, (HRB.out _ hm2).1.1.step HB.out, (HRB.out _ hm2).1.2, rfl⟩
              obtain ⟨r, hr⟩ : ∃ r, r = L'[j].row := ⟨_, rfl⟩
              have HRR := hid hr
              rw [← hr] at h0 HROW hrl HIN
              clear hr hmem HRXo
              generalize L'[j].A = rA at *
              generalize L'[j].k = rk at *
              have hbo : b < wj.heap.size := hb
              obtain ⟨cF, hcF⟩ : ∃ q, q = F r := ⟨_, rfl⟩
              have HCF := hid hcF
              have hnl : (nameB r).length ≤ maxLen := by have := nameB_len HIN.out; simp only [maxLen]; omega
              have HLK := hid (fun w1 (hb1 : Below wj.heap.size wj w1) => show (Instr.lookup 128 (.map (some w.heap.size)) (.string (bstr (nameB r))) false).run Tryz.prog w1 = .ok (.int .i64 cF) w1 from by
                obtain ⟨cc, hlk, hat, -⟩ := World.ownsMap.lookup_int (ownsMap_step HOW2.out (Below.step' HB.out hb1)) str_law Tryz.underlying128 Tryz.underlying3 (zero_int w1) (keyOf_N hnl)
                rw [hlk, HS.out.at hat, hcF])
              have HNM := hid (fun w1 (hb1 : Below wj.heap.size wj w1) => name_any r rA rk w1 (HROW.out.step hb1) hrl HIN.out (Pow.step HT2.out (Below.step' HB.out hb1)))
              clear hnl hcF
              obtain ⟨sk, hsk⟩ : ∃ sk : Bool, sk = ((if h : 0 < j then decide (cmpL L'[j - 1].row r = 0) else false) || decide (cF = 0)) := ⟨_, rfl⟩
              have HSK := hid hsk
              clear hsk
              have hbd : Below wj.heap.size wj wj.drew := (Below.refl _ _).drew
              go_upto_region 16 with fail
              -- STOP-h
              go_cut [76] from 52 to 76 (fun s wx => s = .bool sk ∧ Hid (Below wj.heap.size wj wx))
              case first =>
                have hlx : ∀ x : Ext wj.heap.size wj, (Instr.lookup 128 (.map (some w.heap.size)) (.string (bstr (nameB r))) false).run Tryz.prog x.w = .ok (.int .i64 cF) x.w := fun x => HLK.out x.w x.below
                by_cases hj0 : 0 < j
                · obtain ⟨y, yA, yk, g0, g1, g2, g3⟩ := HPRE.out hj0
                  have HORD := hid (fun w1 (hb1 : Below wj.heap.size wj w1) => (Rorder_any y r yA rA yk rk w1 (g1.step hb1) (HROW.out.step hb1) (by omega) (by omega)).mono fun e w' ⟨he, hq⟩ => (⟨he, by obtain ⟨q, hq⟩ := hq; rw [hq]; exact below_drewN (Below.refl _ _) q⟩ : e = Ending.returned (.int .i64 (cmpL y r)) ∧ Below w1.heap.size w1 w'))
                  obtain ⟨cv, hcv⟩ : ∃ q, q = cmpL y r := ⟨_, rfl⟩
                  rw [← hcv] at HORD
                  have HSW : Hid (sk = (decide (cv = 0) || decide (cF = 0))) := hid (by rw [HSK.out, dif_pos hj0, ← g3, ← hcv])
                  have hi1 : (0 : Int) < (j : Int) := by omega
                  have hw1 : IntKind.i64.wrap ((j : Int) - 1) = (j : Int) - 1 := IntWalk.i64_in _ (by omega)
                  have hi2 : ((j : Int) - 1).toNat = j - 1 := by omega
                  have hi3 : (0 : Int) ≤ (j : Int) - 1 := by omega
                  have hi4 : (1 : Int) ≤ (j : Int) := by omega
                  have hi5 : (j : Int) - 1 < (M.length : Int) := by omega
                  clear hcv g1 g3
                  by_cases hc : cv = 0
                  · have t2 : (cv == 0) = true := by simp [hc]
                    have HSV : Hid (sk = true) := hid (by rw [HSW.out, decide_eq_true hc]; rfl)
                    clear hc
                    go_wp2
                    refine region_ext (by kernel_rfl) (by kernel_rfl) (fun hext => ?_)
                    repeat (any_goals ((with_reducible refine wpQuiet_step (fun K hK => ?_)); go_simp; first | (with_reducible refine hK _ ?_; clear hK K) | ((with_reducible apply Exists.intro); (with_reducible refine ⟨fun _ => ?_, hK _ ?_⟩); ((first | (go_at_call 17; exact ext_call _ (Nat.le_refl _) (HORD.out _ (Ext.below _))) | (go_at_call 90; exact ext_call _ (Nat.le_refl _) (HNM.out _ (Ext.below _))))); clear hK K) | ((with_reducible refine (if_neg ?_).mpr (hK _ ?_)); (decide); clear hK K) | (split <;> (with_reducible refine hK _ ?_; clear hK K))))
                    all_goals ((with_reducible refine wpQuiet_nil ?_); clear hext; intro w1 hx1; have hb1 := ext_below hx1; clear hx1)
                    go_wp2
                    all_goals
                      go_meet
                      case rel => exact ⟨by rw [HSV.out], hid hb1⟩
                  · have t2 : (cv == 0) = false := by simp [hc]
                    by_cases hz : cF = 0
                    · have t3 : (cF == 0) = true := by simp [hz]
                      have HSV : Hid (sk = true) := hid (by rw [HSW.out, decide_eq_true hz, Bool.or_true])
                      clear hc hz
                      go_wp2
                      refine region_ext (by kernel_rfl) (by kernel_rfl) (fun hext => ?_)
                      repeat (any_goals ((with_reducible refine wpQuiet_step (fun K hK => ?_)); go_simp; first | (with_reducible refine hK _ ?_; clear hK K) | ((with_reducible apply Exists.intro); (with_reducible refine ⟨fun _ => ?_, hK _ ?_⟩); ((first | (go_at_call 17; exact ext_call _ (Nat.le_refl _) (HORD.out _ (Ext.below _))) | (go_at_call 90; exact ext_call _ (Nat.le_refl _) (HNM.out _ (Ext.below _))))); clear hK K) | ((with_reducible refine (if_neg ?_).mpr (hK _ ?_)); (decide); clear hK K) | (split <;> (with_reducible refine hK _ ?_; clear hK K))))
                      all_goals ((with_reducible refine wpQuiet_nil ?_); clear hext; intro w1 hx1; have hb1 := ext_below hx1; clear hx1)
                      go_wp2
                      all_goals
                        go_meet
                        case rel => exact ⟨by rw [HSV.out], hid hb1⟩
                    · have t3 : (cF == 0) = false := by simp [hz]
                      have HSV : Hid (sk = false) := hid (by rw [HSW.out, decide_eq_false hc, decide_eq_false hz]; rfl)
                      clear hc hz
                      go_wp2
                      refine region_ext (by kernel_rfl) (by kernel_rfl) (fun hext => ?_)
                      repeat (any_goals ((with_reducible refine wpQuiet_step (fun K hK => ?_)); go_simp; first | (with_reducible refine hK _ ?_; clear hK K) | ((with_reducible apply Exists.intro); (with_reducible refine ⟨fun _ => ?_, hK _ ?_⟩); ((first | (go_at_call 17; exact ext_call _ (Nat.le_refl _) (HORD.out _ (Ext.below _))) | (go_at_call 90; exact ext_call _ (Nat.le_refl _) (HNM.out _ (Ext.below _))))); clear hK K) | ((with_reducible refine (if_neg ?_).mpr (hK _ ?_)); (decide); clear hK K) | (split <;> (with_reducible refine hK _ ?_; clear hK K))))
                      all_goals ((with_reducible refine wpQuiet_nil ?_); clear hext; intro w1 hx1; have hb1 := ext_below hx1; clear hx1)
                      go_wp2
                      all_goals
                        go_meet
                        case rel => exact ⟨by rw [HSV.out], hid hb1⟩
                · have HSW : Hid (sk = decide (cF = 0)) := hid (by rw [HSK.out, dif_neg hj0, Bool.false_or])
                  have hi1 : decide ((0 : Int) < (j : Int)) = false := decide_eq_false (by omega)
                  have hi2 : ¬ (0 : Int) < (j : Int) := by omega
                  by_cases hz : cF = 0
                  · have t3 : (cF == 0) = true := by simp [hz]
                    have HSV : Hid (sk = true) := hid (by rw [HSW.out, decide_eq_true hz])
                    clear hz
                    go_wp2
                    refine region_ext (by kernel_rfl) (by kernel_rfl) (fun hext => ?_)
                    repeat (any_goals ((with_reducible refine wpQuiet_step (fun K hK => ?_)); go_simp; first | (with_reducible refine hK _ ?_; clear hK K) | ((with_reducible apply Exists.intro); (with_reducible refine ⟨fun _ => ?_, hK _ ?_⟩); ((go_at_call 90; exact ext_call _ (Nat.le_refl _) (HNM.out _ (Ext.below _)))); clear hK K) | ((with_reducible refine (if_neg ?_).mpr (hK _ ?_)); (decide); clear hK K) | (split <;> (with_reducible refine hK _ ?_; clear hK K))))
                    all_goals ((with_reducible refine wpQuiet_nil ?_); clear hext; intro w1 hx1; have hb1 := ext_below hx1; clear hx1)
                    go_wp2
                    all_goals
                      go_meet
                      case rel => exact ⟨by rw [HSV.out], hid hb1⟩
                  · have t3 : (cF == 0) = false := by simp [hz]
                    have HSV : Hid (sk = false) := hid (by rw [HSW.out, decide_eq_false hz])
                    clear hz
                    go_wp2
                    refine region_ext (by kernel_rfl) (by kernel_rfl) (fun hext => ?_)
                    repeat (any_goals ((with_reducible refine wpQuiet_step (fun K hK => ?_)); go_simp; first | (with_reducible refine hK _ ?_; clear hK K) | ((with_reducible apply Exists.intro); (with_reducible refine ⟨fun _ => ?_, hK _ ?_⟩); ((go_at_call 90; exact ext_call _ (Nat.le_refl _) (HNM.out _ (Ext.below _)))); clear hK K) | ((with_reducible refine (if_neg ?_).mpr (hK _ ?_)); (decide); clear hK K) | (split <;> (with_reducible refine hK _ ?_; clear hK K))))
                    all_goals ((with_reducible refine wpQuiet_nil ?_); clear hext; intro w1 hx1; have hb1 := ext_below hx1; clear hx1)
                    go_wp2
                    all_goals
                      go_meet
                      case rel => exact ⟨by rw [HSV.out], hid hb1⟩
              case rest =>
                obtain ⟨rfl, HB8⟩ := hcut
                obtain ⟨wq, rfl⟩ : ∃ wx : World, wx = wc := ⟨_, rfl⟩
                -- STOP-i
                have hRl : j < (L'.map IR.row).length := by rw [List.length_map]; exact hlt'
                have hRj : (L'.map IR.row)[j] = r := by rw [List.getElem_map, HRR.out]
                have hrp : ∀ h : 0 < j, (L'.map IR.row)[j - 1]'(by omega) = L'[j - 1].row := fun h => by rw [List.getElem_map]
                cases sk
                · have hz : cF ≠ 0 := fun e => by
                    have := HSK.out
                    rw [decide_eq_true e, Bool.or_true] at this
                    cases this
                  have HTM := hid (show TotI F (L'.map IR.row) (j + 1) (its S ++ [(r, cF)]) from by
                    have h := totI_more HRS.out HTI.out hRl (fun h0 => by
                      rw [hrp h0, hRj]
                      intro e
                      have := HSK.out
                      rw [dif_pos h0, decide_eq_true e] at this
                      cases this) (by rw [hRj, ← HCF.out]; exact hz) (by rw [hRj]; exact HFW.out r)
                    rw [hRj, ← HCF.out] at h
                    exact h)
                  clear hRl hRj hrp hz
                  have hbd8 : Below wj.heap.size wj wq.drew := Below.drew HB8.out
                  have HRW := hid (fun w1 (hb1 : Below wj.heap.size wj w1) => HROW.out.step hb1)
                  have hrl1 : (icells' r).length = r.length * 1 := by simp
                  have hmxr : 0 + r.length ≤ maxLen := by simp only [maxLen]; omega
                  have hbyr : (0 + r.length) * 8 ≤ 140737488355328 := by omega
                  have hmx3 : S.length + 1 ≤ maxLen := by simp only [maxLen]; omega
                  have hby3 : (S.length + 1) * 32 ≤ 140737488355328 := by omega
                  have h08 := ((bcell HB8.out).1 b _ hbo).trans h0
                  go_upto_region 17 with fail
                  -- STOP-j
                  go_region_law
                    (first
                      | (go_simp; go_at_call 90; (with_reducible refine (HNM.out _ hbd8).mono ?_); rintro e w5 ⟨rfl, hb5⟩; have hbN : Below wj.heap.size wj w5 := Below.step' hbd8 hb5; have h05 := ((bcell hbN).1 b _ hbo).trans h0; have hlk5 := HLK.out w5 hbN)
                      | (go_simp; go_at_call 90; (with_reducible refine (HNM.out _ hbA).mono ?_); rintro e w5 ⟨rfl, hb5⟩; have hbN : Below wj.heap.size wj w5 := Below.step' hbA hb5; have h05 := ((bcell hbN).1 b _ hbo).trans h0; have hlk5 := HLK.out w5 hbN; have hro5 := hroA.step hb5; have hin5 : ∀ b off q, A6 = some ⟨b, off, q⟩ → wj.heap.size ≤ b ∧ b < w5.heap.size := fun b off q e => ⟨(hinA b off q e).1, Nat.lt_of_lt_of_le (hinA b off q e).2 hb5.size⟩)
                      | (refine step_append_row elem_int (by rfl) _ _ (by rfl) wj.heap.size (.slice none 0 0) 0 [] (by rfl) (World.ownsRow_nil _ _ _ _) rA r.length rk _ (icells' r) (by rfl) hrl1 (HRW.out _ hbd8) (icT_one r) hmxr hbyr (Below.size hbd8) ?_; intro vA wA hownA hgA hifA; rw [Nat.zero_add, List.nil_append] at hownA; obtain ⟨A6, c6, rfl⟩ := own_formS hownA; have hbA : Below wj.heap.size wj wA := Below.grown hbd8 hgA (Below.size hbd8) (fun g e => nomatch e); have h0A := ((bcell hbA).1 b _ hbo).trans h0; have hlkA := HLK.out wA hbA; have hroA : RowOwn wA A6 r c6 := RowOwn.of_own hownA rfl; have hinA : ∀ b off q, A6 = some ⟨b, off, q⟩ → wj.heap.size ≤ b ∧ b < wA.heap.size := fun b off q e => hownA.lt b (by rw [e]; rfl))
                      | (refine step_append_row elem_int (by rfl) _ _ (by rfl) wj.heap.size (.slice none 0 0) 0 [] (by rfl) (World.ownsRow_nil _ _ _ _) rA r.length rk _ (icells' r) (by rfl) hrl1 (HRW.out _ hbN) (icT_one r) hmxr hbyr (Below.size hbN) ?_; intro vA wA hownA hgA hifA; rw [Nat.zero_add, List.nil_append] at hownA; obtain ⟨A6, c6, rfl⟩ := own_formS hownA; have hbA : Below wj.heap.size wj wA := Below.grown hbN hgA (Below.size hbN) (fun g e => nomatch e); have h0A := ((bcell hbA).1 b _ hbo).trans h0; have hlkA := HLK.out wA hbA; have hroA : RowOwn wA A6 r c6 := RowOwn.of_own hownA rfl; have hinA : ∀ b off q, A6 = some ⟨b, off, q⟩ → wj.heap.size ≤ b ∧ b < wA.heap.size := fun b off q e => hownA.lt b (by rw [e]; rfl))
                      | (refine step_append_row elem_item (by rfl) _ _ (by rfl) w2.heap.size (.slice A7 S.length c7) S.length (rcells S) (by rfl) (World.ownsRow.alloc (own_laterS HOWN.out hbN) _) (some ⟨w5.heap.size, 0, none⟩) 1 1 (w5.heap.size + 1) [.slice A6 r.length c6, .int .i64 cF] (by rfl) (by rfl) (Row.new' w5 _ _ rfl rfl (Nat.lt_succ_self _)) (rcells_one [⟨r, A6, c6, cF⟩]) hmx3 hby3 (Nat.le_trans (Nat.le_trans hs3 (Below.size hbN)) (le_alloc _ _)) ?_; intro v7 w7 hown7 hg7 hif7; have HX : Hid (TotNew wj w5 w7 (.slice A7 S.length c7) v7 A6 r c6 cF) := hid ⟨hbN, hro5, hin5, hg7, hif7⟩)
                      | (refine step_append_row elem_item (by rfl) _ _ (by rfl) w2.heap.size (.slice A7 S.length c7) S.length (rcells S) (by rfl) (World.ownsRow.alloc (own_laterS HOWN.out hbA) _) (some ⟨wA.heap.size, 0, none⟩) 1 1 (wA.heap.size + 1) [.slice A6 r.length c6, .int .i64 cF] (by rfl) (by rfl) (Row.new' wA _ _ rfl rfl (Nat.lt_succ_self _)) (rcells_one [⟨r, A6, c6, cF⟩]) hmx3 hby3 (Nat.le_trans (Nat.le_trans hs3 (Below.size hbA)) (le_alloc _ _)) ?_; intro v7 w7 hown7 hg7 hif7; have HX : Hid (TotNew wj wA w7 (.slice A7 S.length c7) v7 A6 r c6 cF) := hid ⟨hbA, hroA, hinA, hg7, hif7⟩))
                  -- STOP-k
                  all_goals
                    go_wp2_with fail
                    have HOWN9 := hid hown7
                    clear hown7 hg7 hif7
                    go_roundw
                    -- STOP-l
                    case rel =>
                      obtain ⟨hbX, hroX, hinX, hgX, hifX⟩ := HX.out
                      have hsX := hbX.size
                      have hba := hbX.alloc hsX (.cells #[.slice A6 r.length c6, .int .i64 cF] 67)
                      have hA6 : ∀ b off q, A6 = some ⟨b, off, q⟩ → some b ≠ (Value.slice A7 S.length c7).ownBlock := fun b off q e e2 => by
                        have q1 := (hinX b off q e).1
                        have q2 := (HOWN.out.lt b e2.symm).2
                        omega
                      refine ⟨j + 1, S ++ [⟨r, A6, c6, cF⟩], by omega, by go_num, by simp; omega, hid ?_, hid ?_, hid ?_, hid ?_⟩
                      · show TotI F _ _ ((S ++ [(⟨r, A6, c6, cF⟩ : IR)]).map IR.it)
                        rw [List.map_append]
                        exact HTM.out
                      · rw [rcells_snoc, List.length_append]
                        exact HOWN9.out
                      · refine RowsNew.snoc ((HNEW.out.step hba).grown hgX hifX) (x := (⟨r, A6, c6, cF⟩ : IR)) (((hroX.step (alloc_below (Below.refl _ _) _)).grown_ne (Nat.le_refl _) hgX hA6).more hgX.size) (fun b off q e => Nat.le_trans hs3 (hinX b off q e).1) (fun b off q e => ?_) hrl
                        have q1 := hinX b off q e
                        have hsz7 := hgX.size
                        simp at hsz7
                        refine ⟨?_, by omega⟩
                        rcases hifX with h | h
                        · rw [h]; exact hA6 b off q e
                        · rw [h]
                          intro e2
                          injection e2 with e2
                          simp at e2
                          omega
                      · exact ((HB.out.trans (hba.mono hs3))).grown hgX (by have := hgX.size; simp; omega) (fun g e => (HOWN.out.lt g e).1)
                    case measure => simp [intOf]; omega
                · have HTS := hid (show TotI F (L'.map IR.row) (j + 1) (its S) from by
                    by_cases hz : cF = 0
                    · exact totI_none HTI.out hRl (by rw [hRj, ← HCF.out]; exact hz)
                    · have := HSK.out
                      rw [decide_eq_false hz, Bool.or_false] at this
                      by_cases h0 : 0 < j
                      · rw [dif_pos h0] at this
                        exact totI_twice HTI.out hRl h0 (by rw [hrp h0, hRj]; exact of_decide_eq_true this.symm)
                      · rw [dif_neg h0] at this
                        cases this)
                  clear hRl hRj hrp
                  go_wp2_with fail
                  -- STOP-m
                  go_roundw
                  case rel => exact ⟨j + 1, S, by omega, by go_num, by omega, HTS, hid (own_laterS HOWN.out HB8.out), hid (HNEW.out.step HB8.out), hid (Below.step' HB.out HB8.out)⟩
                  case measure => simp [intOf]; omega
            · have t1 : ((j : Int) < (M.length : Int)) = False := eq_false (by omega)
              have hjm : j = M.length := by omega
              go_wp2_with fail
              -- STOP-z
              go_ret
              refine ⟨A7, c7, S, rfl, HEND.out (its S) ?_, own_baseS HOWN.out hs2, ?_, HB2.out.trans (HB.out.mono hs2)⟩
              · rw [List.length_map, HLN.out, ← hjm]; exact HTI.out
              · exact fun x hx => ⟨(HNEW.out x hx).1, newAt_le (HNEW.out x hx).2.1 hs2, (HNEW.out x hx).2.2⟩
end Go.Proofs.YtldlmkfigjicgaaGreatDoor
/- viewref.Made, Norm, Add. -/
namespace Go.Proofs.YtldlmkfigjicgaaGreatDoor
set_option linter.unusedVariables false
set_option linter.unusedSimpArgs false
open Go.ChangeShapes Go.WideShapes Go.ChangeAt Go.RowKit

theorem own_len1 {w : World} {B n c s : Nat} {T : TypeId} {A : Option Addr} {xs : List Value} (h : w.ownsRow B T s (.slice A n c) n xs) : n ≤ 9223372036854775807 := by
  rcases h.2 with ⟨e, h0⟩ | ⟨g, cap, cur, e, hb, hg, hnc, hcm, -⟩
  · omega
  · simp only [maxLen] at hcm
    omega
theorem badB_parts (r : List Int) (n : Int) : badB (r, n) = (!rowB r || farB n) := rfl
theorem any_at {M : List IR} {i : Nat} (h : i < M.length) (hb : badB M[i].it = true) : (its M).any badB = true :=
  List.any_eq_true.2 ⟨M[i].it, List.mem_map.2 ⟨_, List.getElem_mem h, rfl⟩, hb⟩
theorem any_none {M : List IR} (h : ∀ j, (hj : j < M.length) → badB M[j].it = false) : (its M).any badB = false := by
  rw [List.any_eq_false]
  intro x hx
  obtain ⟨y, hy, rfl⟩ := List.mem_map.1 hx
  obtain ⟨j, hj, rfl⟩ := List.mem_iff_getElem.1 hy
  rw [h j hj]; simp
theorem tot_of_ok {M : List IR} (hl : M.length ≤ 4194304) (h : ∀ x ∈ its M, badB x = false) : TotOk M := by
  have hx : ∀ x ∈ M, x.row.length ≤ 8 ∧ ∀ n ∈ x.row, -1073741824 ≤ n ∧ n ≤ 1073741824 := fun x hx => by
    have hb := h x.it (List.mem_map.2 ⟨x, hx, rfl⟩)
    rw [show x.it = (x.row, x.n) from rfl, badB_parts, Bool.or_eq_false_iff, Bool.not_eq_false'] at hb
    have h1 := hb.1
    unfold rowB at h1
    rw [Bool.and_eq_true, Bool.not_eq_true', List.any_eq_false] at h1
    refine ⟨of_decide_eq_true h1.1, fun n hn => ?_⟩
    have h3 := h1.2 n hn
    unfold outB at h3
    rw [Bool.not_eq_true, Bool.or_eq_false_iff] at h3
    have e1 := of_decide_eq_false h3.1
    have e2 := of_decide_eq_false h3.2
    omega
  exact ⟨hl, fun x q => by have := (hx x q).1; omega, fun x q n hn => by have := (hx x q).2 n hn; omega⟩
set_option maxHeartbeats 4000000 in
set_option maxRecDepth 100000 in
theorem Rmade_any (M : List IR) (A : Option Addr) (c : Nat) (w : World) (hr : RowI w w.heap.size A M) (hok : TotOk M) (ht : Pow w) :
    Calls Tryz.prog 39 #[.slice A M.length c] w (ItsErr (doneX (sumL (its M))) (doneE (sumL (its M))) w) := by
  have HTO := hid (total_any M A c w hr hok ht)
  clear hr hok ht
  obtain ⟨T, hT⟩ : ∃ T, T = sumL (its M) := ⟨_, rfl⟩
  rw [← hT] at HTO ⊢
  clear hT
  go_enter Tryz.func39, Tryz.ntmps39
  go_wp2_with fail
  refine HTO.out.mono ?_
  rintro e w1 ⟨A1, k1, M1, rfl, hi1, ho1, hn1, hb1⟩
  subst hi1
  have HO := hid ho1
  have HNW := hid hn1
  have HB1 := hid hb1
  have HR := hid (show RowI w1 w1.heap.size A1 M1 from ⟨Row.of_ownS ho1, hn1.rows⟩)
  have hl1 := own_len1 ho1
  clear ho1 hn1 hb1 HTO
  go_wp2_with fail
  -- STOP-a
  go_loopw [4] (fun s4 wr => ∃ i : Nat, i ≤ M1.length ∧ s4 = .int .i64 i ∧ Hid (∀ j, (hj : j < M1.length) → j < i → badB M1[j].it = false) ∧ Hid (Below w1.heap.size w1 wr)) (fun s4 _ => M1.length - (intOf s4).toNat)
  case atStart => exact ⟨0, by omega, rfl, hid (fun j _ h => by omega), hid (Below.refl _ _)⟩
  case round =>
    obtain ⟨i, hi, rfl, HNO, HB⟩ := hrel
    obtain ⟨W, rfl⟩ : ∃ wx : World, wx = wr := ⟨_, rfl⟩
    by_cases hlt : i < M1.length
    · have t1 : ((i : Int) < (M1.length : Int)) = True := eq_true (by omega)
      have HRR := hid (HR.out.step HB.out)
      obtain ⟨b, off, rfl, hb, h0, h1⟩ := HRR.out.1.it hlt
      have hrw := HRR.out.2 _ (List.getElem_mem hlt)
      have HBD := hid (show badB M1[i].it = (!rowB M1[i].row || farB M1[i].n) from rfl)
      have HAN := hid (fun h : badB M1[i].it = true => any_at hlt h)
      have HXX := hid (show ∃ x, x = M1[i] from ⟨_, rfl⟩)
      have HROW := hid (Rrow_any M1[i].row M1[i].A M1[i].k W hrw.1 hrw.2)
      have HFAR := hid (fun w1 => show Calls Tryz.prog 38 #[.int .i64 M1[i].n, .int .i64 (-1048576), .int .i64 1048576] w1 fun e w' => e = .returned (.bool (!farB M1[i].n)) ∧ w1 = w' from by rw [← inB_far]; exact in_any _ _ _ w1)
      obtain ⟨bx, hbx⟩ : ∃ q, q = badB M1[i].it := ⟨_, rfl⟩
      have HBX := hid hbx
      rw [← hbx] at HBD HAN
      clear hbx hrw HXX
      generalize M1[i].row = xr at *
      generalize M1[i].A = xA at *
      generalize M1[i].k = xk at *
      generalize M1[i].n = xn at *
      generalize rowB xr = rb at *
      generalize farB xn = fb at *
      have HFIN : Hid (bx = true → doneE (its M1) = 5 ∧ doneX (its M1) = []) := hid fun h => by
        have e : doneE (its M1) = 5 := by unfold doneE; rw [if_pos (HAN.out h)]
        exact ⟨e, by unfold doneX; rw [if_neg (by rw [e]; decide)]⟩
      cases rb
      · obtain ⟨f1, f2⟩ := HFIN.out HBD.out
        have F1 := hid f1
        have F2 := hid f2
        clear HAN f1 f2
        go_wp2_with (go_at_call 37; refine HROW.out.mono ?_; rintro e w' ⟨rfl, rfl⟩)
        -- STOP-b
        go_ret2
        try rw [F1.out, F2.out]
        exact itsErr_nil (HB1.out.trans (HB.out.mono HB1.out.size))
      · cases fb
        · have hgd : bx = false := HBD.out
          rw [hgd] at HBX
          clear HAN HFIN hgd
          go_wp2_with (first | (go_at_call 37; refine HROW.out.mono ?_; rintro e w' ⟨rfl, rfl⟩) | (go_at_call 38; refine (HFAR.out _).mono ?_; rintro e w' ⟨rfl, rfl⟩))
          -- STOP-c
          go_roundw
          case rel =>
            refine ⟨i + 1, by omega, by go_num, hid (fun j hj h => ?_), HB⟩
            by_cases e : j = i
            · subst e; exact HBX.out.symm
            · exact HNO.out j hj (by omega)
          case measure => simp [intOf]; omega
        · obtain ⟨f1, f2⟩ := HFIN.out HBD.out
          have F1 := hid f1
          have F2 := hid f2
          clear HAN f1 f2
          go_wp2_with (first | (go_at_call 37; refine HROW.out.mono ?_; rintro e w' ⟨rfl, rfl⟩) | (go_at_call 38; refine (HFAR.out _).mono ?_; rintro e w' ⟨rfl, rfl⟩))
          -- STOP-d
          go_ret2
          try rw [F1.out, F2.out]
          exact itsErr_nil (HB1.out.trans (HB.out.mono HB1.out.size))
    · have t1 : ((i : Int) < (M1.length : Int)) = False := eq_false (by omega)
      have hany : (its M1).any badB = false := any_none fun j hj => HNO.out j hj (by omega)
      by_cases h4 : 400 < M1.length
      · have t2 : ((400 : Int) < (M1.length : Int)) = True := eq_true (by omega)
        have f1 : doneE (its M1) = 2 := by unfold doneE; rw [hany, if_neg (by simp), if_pos (by rw [its_len]; exact h4)]
        have f2 : doneX (its M1) = [] := by unfold doneX; rw [if_neg (by rw [f1]; decide)]
        have F1 := hid f1
        have F2 := hid f2
        clear f1 f2 hany h4
        go_wp2_with fail
        -- STOP-e
        go_ret2
        try rw [F1.out, F2.out]
        exact itsErr_nil (HB1.out.trans (HB.out.mono HB1.out.size))
      · have t2 : ((400 : Int) < (M1.length : Int)) = False := eq_false (by omega)
        have f1 : doneE (its M1) = 0 := by unfold doneE; rw [hany, if_neg (by simp), if_neg (by rw [its_len]; exact h4)]
        have f2 : doneX (its M1) = its M1 := by unfold doneX; rw [if_pos f1]
        have F1 := hid f1
        have F2 := hid f2
        clear f1 f2 hany h4
        go_wp2_with fail
        -- STOP-f
        go_ret2
        try rw [F1.out, F2.out]
        exact ⟨A1, k1, M1, rfl, rfl, own_laterS HO.out HB.out, HNW.out.step HB.out, HB1.out.trans (HB.out.mono HB1.out.size)⟩
theorem itsErr_then {S : List It} {x : Int} {w w1 : World} {e : Ending} {w' : World} (hb : Below w.heap.size w w1) (h : ItsErr S x w1 e w') : ItsErr S x w e w' := by
  obtain ⟨A, k, M, he, hi, ho, hn, hb1⟩ := h
  exact ⟨A, k, M, he, hi, own_baseS ho hb.size, fun x hx => ⟨(hn x hx).1, newAt_le (hn x hx).2.1 hb.size, (hn x hx).2.2⟩, hb.trans (hb1.mono hb.size)⟩
set_option maxHeartbeats 4000000 in
set_option maxRecDepth 100000 in
theorem Radd_any (M1 M2 : List IR) (A1 A2 : Option Addr) (c1 c2 : Nat) (w : World) (hr1 : RowI w w.heap.size A1 M1) (hl1 : M1.length ≤ 9223372036854775807) (hr2 : RowI w w.heap.size A2 M2) (hl2 : M2.length ≤ 9223372036854775807) (ht : Pow w) :
    Calls Tryz.prog 9 #[.slice A1 M1.length c1, .slice A2 M2.length c2] w (ItsErr (addX (its M1) (its M2)) (addE (its M1) (its M2)) w) := by
  have HS1 := hid (Rset_any M1 A1 c1 w hr1 hl1)
  have HS2 := hid (fun w1 (hb : Below w.heap.size w w1) => Rset_any M2 A2 c2 w1 (hr2.step hb) hl2)
  have HR1 := hid hr1
  have HR2 := hid hr2
  have HT := hid ht
  clear hr1 hr2 ht
  go_enter Tryz.func9, Tryz.ntmps9
  go_wp2_with fail
  refine HS1.out.mono ?_
  rintro e w1 ⟨rfl, hb1⟩
  have HB1 := hid hb1
  clear hb1 HS1
  by_cases h1 : setI (its M1) = 0
  rotate_left
  · have f1 : addE (its M1) (its M2) = setI (its M1) := by unfold addE; rw [if_pos h1]
    have f2 : addX (its M1) (its M2) = [] := by unfold addX; rw [if_neg (by rw [f1]; exact h1)]
    have F1 := hid f1
    have F2 := hid f2
    generalize setI (its M1) = E at *
    have t1 : (E != 0) = true := by simpa using h1
    clear f1 f2 h1
    go_wp2_with fail
    go_ret2
    try rw [F1.out, F2.out]
    exact itsErr_nil HB1.out
  have HZ1 := hid h1
  rw [h1]
  clear h1
  go_wp2_with fail
  refine (HS2.out w1 HB1.out).mono ?_
  rintro e w2 ⟨rfl, hb2⟩
  have HB2 := hid (Below.step' HB1.out hb2)
  clear hb2 HS2
  by_cases h2 : setI (its M2) = 0
  rotate_left
  · have f1 : addE (its M1) (its M2) = setI (its M2) := by unfold addE; rw [if_neg (by rw [HZ1.out]; simp), if_pos h2]
    have f2 : addX (its M1) (its M2) = [] := by unfold addX; rw [if_neg (by rw [f1]; exact h2)]
    have F1 := hid f1
    have F2 := hid f2
    generalize setI (its M2) = E at *
    have t1 : (E != 0) = true := by simpa using h2
    clear f1 f2 h2
    go_wp2_with fail
    go_ret2
    try rw [F1.out, F2.out]
    exact itsErr_nil HB2.out
  have HZ2 := hid h2
  rw [h2]
  clear h2
  have f1 : addE (its M1) (its M2) = doneE (sumL (its M1 ++ its M2)) := by unfold addE; rw [if_neg (by rw [HZ1.out]; simp), if_neg (by rw [HZ2.out]; simp)]
  have f2 : addX (its M1) (its M2) = doneX (sumL (its M1 ++ its M2)) := by unfold addX doneX; rw [f1]
  have F1 := hid f1
  have F2 := hid f2
  have hl1' : M1.length ≤ 400 := by have := (setI_zero.1 HZ1.out).1; rwa [its_len] at this
  have hl2' : M2.length ≤ 400 := by have := (setI_zero.1 HZ2.out).1; rwa [its_len] at this
  have HTOK := hid (tot_of_ok (M := M1 ++ M2) (by rw [List.length_append]; omega) (fun x hx => by
    rw [its, List.map_append] at hx
    rcases List.mem_append.1 hx with q | q
    · exact (setI_zero.1 HZ1.out).2.1 x q
    · exact (setI_zero.1 HZ2.out).2.1 x q))
  have hr1 := HR1.out.step HB2.out
  have hr2 := HR2.out.step HB2.out
  clear f1 f2
  go_upto_region 7 with fail
  go_wp2_with (first
    | (at_builtin; refine wpList_append_row elem_item rfl _ _ rfl w2.heap.size (.slice none 0 0) 0 [] rfl (World.ownsRow_nil _ _ _ _) A1 M1.length c1 w2.heap.size (rcells M1) rfl (rcells_len M1) hr1.1 (rcells_one M1) ?_ ?_ ?_ ?_; rotate_right; intro v7 w7 hown7 hg7 hif7; rw [Nat.zero_add, List.nil_append] at hown7; obtain ⟨A7, c7, rfl⟩ := own_formS hown7; have hb7 : Below w2.heap.size w2 w7 := (Below.refl _ _).grown hg7 (Nat.le_refl _) (fun g e => nomatch e); rotate_left; (simp only [maxLen]; omega); (omega); (omega))
    | (at_builtin; refine wpList_append_row elem_item rfl _ _ rfl w2.heap.size (.slice A7 M1.length c7) M1.length (rcells M1) rfl hown7 A2 M2.length c2 w7.heap.size (rcells M2) rfl (rcells_len M2) (hr2.step hb7).1 (rcells_one M2) ?_ ?_ ?_ ?_; rotate_right; intro v8 w8 hown8 hg8 hif8; obtain ⟨A8, c8, rfl⟩ := own_formS hown8; rotate_left; (simp only [maxLen]; omega); (omega); (exact hb7.size)))
  -- STOP-i
  have hb8 : Below w2.heap.size w2 w8 := hb7.grown hg8 hb7.size (fun g e => (hown7.lt g e).1)
  have HB8 := hid (Below.step' HB2.out hb8)
  have hmd := Rmade_any (M1 ++ M2) A8 c8 w8 ⟨by rw [rcells, List.flatMap_append]; exact Row.of_ownS hown8, RowsAt.app (hr1.step hb8).2 (hr2.step hb8).2⟩ HTOK.out (Pow.step HT.out HB8.out)
  rw [List.length_append, its, List.map_append] at hmd
  clear hown7 hg7 hif7 hown8 hg8 hif8 hb7 hb8 hr1 hr2
  refine hmd.mono ?_
  rintro e w9 h9
  have HE := hid (itsErr_then HB8.out h9)
  obtain ⟨A9, k9, M9, rfl, -⟩ := h9
  clear hmd
  go_wp2_with fail
  go_ret2
  try rw [F1.out, F2.out]
  exact HE.out
end Go.Proofs.YtldlmkfigjicgaaGreatDoor
/- viewref.Minus, Rows. -/
namespace Go.Proofs.YtldlmkfigjicgaaGreatDoor
set_option linter.unusedVariables false
set_option linter.unusedSimpArgs false
open Go.ChangeShapes Go.WideShapes Go.ChangeAt Go.RowKit

def negR (x : IR) : IR := ⟨x.row, x.A, x.k, -x.n⟩
theorem its_negR (M : List IR) : its (M.map negR) = negL (its M) := by simp [its, negL, negR, Function.comp_def]
theorem RowsAt.negR {w : World} {B : Nat} {M : List IR} (h : RowsAt w B M) : RowsAt w B (M.map negR) := fun x hx => by
  obtain ⟨y, hy, rfl⟩ := List.mem_map.1 hx
  exact h y hy
set_option maxHeartbeats 4000000 in
set_option maxRecDepth 100000 in
theorem Rminus_map (M : List IR) (A : Option Addr) (c : Nat) (w : World) (hr : RowI w w.heap.size A M) (hs : setI (its M) = 0) :
    Calls Tryz.prog 12 #[.slice A M.length c] w fun e w' => ∃ (A' : Option Addr) (k : Nat), e = .returned (.slice A' (M.map negR).length k) ∧ Row w' w'.heap.size A' (rcells (M.map negR)) ∧ M.length ≤ 400 ∧ Below w.heap.size w w' := by
  have HR := hid hr
  have hl : M.length ≤ 400 := by have := (setI_zero.1 hs).1; rwa [its_len] at this
  have HBD := hid (fun x (hx : x ∈ M) => (badB_false ((setI_zero.1 hs).2.1 x.it (List.mem_map.2 ⟨x, hx, rfl⟩))).2)
  clear hr hs
  go_enter Tryz.func12, Tryz.ntmps12
  go_wp2_with fail
  -- STOP-a
  go_loopw [3, 4] (fun s3 s4 wr => ∃ i : Nat, i ≤ M.length ∧ s4 = .int .i64 i ∧ Hid (wr.ownsRow w.heap.size 67 2 s3 i (rcells ((M.take i).map negR))) ∧ Hid (Below w.heap.size w wr)) (fun _ s4 _ => M.length - (intOf s4).toNat)
  case atStart => exact ⟨0, by omega, rfl, hid (World.ownsRow_nil _ _ _ _), hid (Below.refl _ _)⟩
  case round =>
    obtain ⟨i, hi, rfl, HOWN, HB⟩ := hrel
    obtain ⟨wo, rfl⟩ : ∃ wx : World, wx = wr := ⟨_, rfl⟩
    obtain ⟨A3, c3, rfl⟩ := own_formS HOWN.out
    by_cases hlt : i < M.length
    · have t1 : ((i : Int) < (M.length : Int)) = True := eq_true (by omega)
      obtain ⟨b, off, rfl, hb, h0, h1⟩ := (HR.out.1.below HB.out (Nat.le_refl _)).it hlt
      have HST := hid (show rcells ((M.take (i + 1)).map negR) = rcells ((M.take i).map negR) ++ [.slice M[i].A M[i].row.length M[i].k, .int .i64 (-M[i].n)] by
        rw [List.take_succ_eq_append_getElem hlt, List.map_append, List.map_cons, List.map_nil, rcells_snoc]; rfl)
      have hn := HBD.out _ (List.getElem_mem hlt)
      try simp only [IR.it] at hn
      generalize M[i].row = r at *
      generalize M[i].A = rA at *
      generalize M[i].k = rk at *
      generalize M[i].n = rn at *
      have hwn : IntKind.i64.wrap (-rn) = -rn := IntWalk.i64_in _ (by omega)
      have hal : Below wo.heap.size wo (wo.alloc (.cells #[.slice rA r.length rk, .int .i64 (-rn)] 67)).drew := Below.drew (alloc_below (Below.refl _ _) _)
      have howA : (wo.alloc (.cells #[.slice rA r.length rk, .int .i64 (-rn)] 67)).drew.ownsRow w.heap.size 67 2 (.slice A3 i c3) i (rcells ((M.take i).map negR)) := own_laterS HOWN.out hal
      have rdA : Row (wo.alloc (.cells #[.slice rA r.length rk, .int .i64 (-rn)] 67)).drew (wo.heap.size + 1) (some ⟨wo.heap.size, 0, none⟩) [.slice rA r.length rk, .int .i64 (-rn)] := Row.drew (Row.new' wo _ _ rfl rfl (Nat.lt_succ_self _))
      have hsA : w.heap.size ≤ (wo.alloc (.cells #[.slice rA r.length rk, .int .i64 (-rn)] 67)).drew.heap.size := Nat.le_trans HB.out.size hal.size
      have hmx : i + 1 ≤ maxLen := by simp only [maxLen]; omega
      have hby : (i + 1) * 32 ≤ 140737488355328 := by omega
      go_wp2_with fail
      -- STOP-b
      go_region_law
        (first
          | (refine step_append_row elem_item (by rfl) _ _ (by rfl) w.heap.size (.slice A3 i c3) i (rcells ((M.take i).map negR)) (by rfl) howA (some ⟨wo.heap.size, 0, none⟩) 1 1 (wo.heap.size + 1) [.slice rA r.length rk, .int .i64 (-rn)] (by rfl) (by rfl) rdA (rcells_one [⟨r, rA, rk, -rn⟩]) hmx hby hsA ?_; intro v7 w7 hown7 hg7 hif7))
      -- STOP-c
      all_goals
        go_wp2_with fail
        go_roundw
        case rel =>
          refine ⟨i + 1, by omega, by go_num, ?_, hid ((Below.step' HB.out hal).grown hg7 hsA (fun g e => (HOWN.out.lt g e).1))⟩
          rw [HST.out]
          exact hid hown7
        case measure => simp [intOf]; omega
    · have t1 : ((i : Int) < (M.length : Int)) = False := eq_false (by omega)
      have him : i = M.length := by omega
      subst him
      have hown := HOWN.out
      rw [List.take_of_length_le (Nat.le_refl _)] at hown
      have HO := hid hown
      clear hown
      go_wp2_with fail
      -- STOP-d
      go_ret
      exact ⟨A3, c3, by rw [List.length_map]; rfl, Row.of_ownS HO.out, hl, HB.out⟩
end Go.Proofs.YtldlmkfigjicgaaGreatDoor
/- plain.All. -/
namespace Go.Proofs.YtldlmkfigjicgaaGreatDoor
set_option linter.unusedVariables false
set_option linter.unusedSimpArgs false
open Go.ChangeShapes Go.WideShapes Go.ChangeAt Go.RowKit

theorem elem_sets : Elem Tryz.prog 44 22 1 24 := ⟨Tryz.underlying44, by
  obtain ⟨i, hi, hz, hs, hb⟩ := info_parts (P := Tryz.prog) (e := 22) (z := .slice none 0 0) (size := 1) (bytes := 24) (by kernel_rfl)
  exact ⟨i, _, hi, hz, hs, hb, rfl⟩, by decide⟩
abbrev pcells (LL : List LR) : List Value := LL.flatMap LR.cells
def setsOf (LL : List LR) : List (List It) := LL.map (fun x => its x.L)
theorem setsOf_len (LL : List LR) : (setsOf LL).length = LL.length := List.length_map ..
/-- Sets of a call's own making, that share nothing with the slice that holds them. -/
def SetsNew (w : World) (lo : Nat) (v : Value) (LL : List LR) : Prop :=
  ∀ x ∈ LL, w.ownsRow lo 67 2 (.slice x.A x.L.length x.k) x.L.length (rcells x.L) ∧ RowsNew w lo (.slice x.A x.L.length x.k) x.L ∧
    (∀ g, (Value.slice x.A x.L.length x.k).ownBlock = some g → some g ≠ v.ownBlock) ∧ ∀ y ∈ x.L, ∀ b off q, y.A = some ⟨b, off, q⟩ → some b ≠ v.ownBlock
theorem SetsNew.nil (w : World) (lo : Nat) (v : Value) : SetsNew w lo v [] := fun x hx => by simp at hx
theorem SetsNew.step {w w' : World} {lo : Nat} {v : Value} {LL : List LR} (h : SetsNew w lo v LL) (hb : Below w.heap.size w w') : SetsNew w' lo v LL := fun x hx => by
  obtain ⟨h1, h2, h3, h4⟩ := h x hx
  exact ⟨own_laterS h1 hb, h2.step hb, h3, h4⟩
theorem SetsNew.grown {w w' : World} {lo : Nat} {v v' : Value} {LL : List LR} (h : SetsNew w lo v LL) (hg : w.grownBy w' v.ownBlock) (hv : v'.ownBlock = v.ownBlock ∨ v'.ownBlock = some w.heap.size) : SetsNew w' lo v' LL := fun x hx => by
  obtain ⟨h1, h2, h3, h4⟩ := h x hx
  refine ⟨own_ne_grown h1 hg h3, h2.grownNe hg h4, fun g e => ?_, fun y hy b off q e => ?_⟩
  · rcases hv with hv | hv
    · rw [hv]; exact h3 g e
    · rw [hv]; intro e2; injection e2 with e2; have := (h1.lt g e).2; omega
  · rcases hv with hv | hv
    · rw [hv]; exact h4 y hy b off q e
    · rw [hv]; intro e2; injection e2 with e2; have := ((h2 y hy).2.2.1 b off q e).2; omega
theorem SetsNew.rows {w : World} {lo : Nat} {v : Value} {LL : List LR} (h : SetsNew w lo v LL) : ∀ x ∈ LL, RowI w w.heap.size x.A x.L := fun x hx => ⟨Row.of_ownS (h x hx).1, (h x hx).2.1.rows⟩
/-- All of one set lies ahead of all of the other. -/
def Apart (x y : LR) : Prop := ∃ mid : Nat, (∀ b off q, x.A = some ⟨b, off, q⟩ → b < mid) ∧ (∀ z ∈ x.L, ∀ b off q, z.A = some ⟨b, off, q⟩ → b < mid) ∧ NewAt mid y.A ∧ ∀ z ∈ y.L, NewAt mid z.A
theorem SetsNew.apart {w : World} {lo mid : Nat} {v : Value} {LL : List LR} (h : SetsNew w lo v LL) (hm : w.heap.size ≤ mid) (hp : LL.Pairwise Apart) {y : LR} (h1 : NewAt mid y.A) (h2 : ∀ z ∈ y.L, NewAt mid z.A) : (LL ++ [y]).Pairwise Apart := by
  refine List.pairwise_append.2 ⟨hp, List.pairwise_singleton _ _, fun x hx z hz => ?_⟩
  rw [List.mem_singleton.1 hz]
  obtain ⟨q1, q2, -, -⟩ := h x hx
  exact ⟨mid, fun b off q e => Nat.lt_of_lt_of_le (own_inS q1 b off q e) hm, fun t ht b off q e => Nat.lt_of_lt_of_le ((q2 t ht).2.2.1 b off q e).2 hm, h1, h2⟩
/-- Sets of a call's own making, and an error. -/
def AllPost (S : List (List It)) (x : Int) (w : World) (e : Ending) (w' : World) : Prop :=
  ∃ (A : Option Addr) (k : Nat) (LL : List LR), e = .returned (.tuple #[.slice A LL.length k, .int .i64 x]) ∧ setsOf LL = S ∧ w'.ownsRow w.heap.size 22 1 (.slice A LL.length k) LL.length (pcells LL) ∧ SetsNew w' w.heap.size (.slice A LL.length k) LL ∧ Below w.heap.size w w' ∧ LL.Pairwise Apart ∧ LL.length ≤ 30
theorem allPost_nil {S : List (List It)} {w w' : World} {x y : Int} (hS : S = []) (hx : y = x) (hb : Below w.heap.size w w') : AllPost S y w (.returned (.tuple #[.slice none 0 0, .int .i64 x])) w' := by
  subst hS hx; exact ⟨none, 0, [], rfl, rfl, World.ownsRow_nil _ _ _ _, SetsNew.nil _ _ _, hb, .nil, by simp⟩
theorem allPost_mk {S : List (List It)} {x y : Int} {w w' : World} {A : Option Addr} {k : Nat} {LL : List LR} (hx : y = x) (h1 : setsOf LL = S) (h2 : w'.ownsRow w.heap.size 22 1 (.slice A LL.length k) LL.length (pcells LL)) (h3 : SetsNew w' w.heap.size (.slice A LL.length k) LL) (h4 : Below w.heap.size w w') (h5 : LL.Pairwise Apart) (h6 : LL.length ≤ 30) : AllPost S y w (.returned (.tuple #[.slice A LL.length k, .int .i64 x])) w' := by
  subst hx; exact ⟨A, k, LL, rfl, h1, h2, h3, h4, h5, h6⟩
theorem setsOf_snoc (LL : List LR) (x : LR) : setsOf (LL ++ [x]) = setsOf LL ++ [its x.L] := List.map_append
theorem pcells_snoc (LL : List LR) (x : LR) : pcells (LL ++ [x]) = pcells LL ++ [.slice x.A x.L.length x.k] := by
  rw [pcells, List.flatMap_append]; rfl
theorem SetsNew.snoc {w : World} {lo : Nat} {v : Value} {LL : List LR} (h : SetsNew w lo v LL) {x : LR} (h1 : w.ownsRow lo 67 2 (.slice x.A x.L.length x.k) x.L.length (rcells x.L)) (h2 : RowsNew w lo (.slice x.A x.L.length x.k) x.L) (h3 : ∀ g, (Value.slice x.A x.L.length x.k).ownBlock = some g → some g ≠ v.ownBlock) (h4 : ∀ y ∈ x.L, ∀ b off q, y.A = some ⟨b, off, q⟩ → some b ≠ v.ownBlock) : SetsNew w lo v (LL ++ [x]) := fun y hy => by
  rcases List.mem_append.1 hy with e | e
  · exact h y e
  · rw [List.mem_singleton.1 e]; exact ⟨h1, h2, h3, h4⟩

theorem bound_of {A : List It} (h : setI A = 0) : ∀ y ∈ A, y.1.length ≤ 8 ∧ (∀ z ∈ y.1, -1073741824 ≤ z ∧ z ≤ 1073741824) ∧ -2097152 ≤ y.2 ∧ y.2 ≤ 2097152 := fun y hy => by
  have := badB_bound ((setI_zero.1 h).2.1 y hy)
  exact ⟨this.1, this.2.1, by omega, by omega⟩
theorem stepOk_of {s : St} {V : List Int} {out : List (List It)} (h : stW s V ≠ 0) (ho : OkOut out V) (k : s.kind ≠ 1) : 0 ≤ s.a ∧ s.a < out.length ∧ 0 ≤ s.b ∧ s.b < out.length ∧ StepOk s (out.getD s.a.toNat []) (out.getD s.b.toNat []) := by
  rcases stW_ok h with ⟨k1, -⟩ | ⟨a0, a1, b0, b1, hk⟩
  · exact absurd k1 k
  · obtain ⟨sA, hA⟩ := ho.get a0 a1
    obtain ⟨sB, hB⟩ := ho.get b0 b1
    have bA := bound_of sA
    have bB := bound_of sB
    rw [ho.1]
    refine ⟨a0, a1, b0, b1, ⟨fun k2 => ?_, fun k3 => ?_, fun k6 y hy => (bB y hy).2.2⟩, fun k4 => ?_, fun k89 => ?_⟩
    · rcases hk with ⟨q, hk⟩ | ⟨q, hk⟩ | ⟨q, hk⟩ | ⟨q, hk⟩ | q | ⟨q, hk⟩ | ⟨q, hk⟩ <;> try omega
      exact ⟨hk.1, fun y hy => by have := hA y hy; omega⟩
    · rcases hk with ⟨q, hk⟩ | ⟨q, hk⟩ | ⟨q, hk⟩ | ⟨q, hk⟩ | q | ⟨q, hk⟩ | ⟨q, hk⟩ <;> try omega
      exact ⟨hk.1, fun n hn => ⟨(hk.2 n hn).1, fun y hy => by have := hA y hy; have := (hk.2 n hn).2; omega⟩⟩
    · rcases hk with ⟨q, hk⟩ | ⟨q, hk⟩ | ⟨q, hk⟩ | ⟨q, hk⟩ | q | ⟨q, hk⟩ | ⟨q, hk⟩ <;> try omega
      exact ⟨hk.1, hk.2.2.1, fun y hy => ⟨by have := hA y hy; omega, bA y hy⟩, fun y hy => ⟨by have := hB y hy; omega, bB y hy⟩⟩
    · rcases hk with ⟨q, hk⟩ | ⟨q, hk⟩ | ⟨q, hk⟩ | ⟨q, hk⟩ | q | ⟨q, hk⟩ | ⟨q, hk⟩ <;> try omega
      · exact ⟨hk.1, fun k9 => by omega, fun y hy => ⟨by have := hA y hy; omega, fun k9 => by omega, (bA y hy).2⟩⟩
      · exact ⟨hk.1, fun k9 => hk.2.2.1, fun y hy => ⟨by have := hA y hy; omega, fun k9 => by have := hA y hy; omega, (bA y hy).2⟩⟩
theorem atL_len {s : St} {V : List Int} {out : List (List It)} {ta tb : List It} (h : stW s V ≠ 0) (ho : OkOut out V) (la : ta.length ≤ 400) (lb : tb.length ≤ 400) : (atL ta tb s out).length ≤ 160000 := by
  unfold atL
  by_cases k : s.kind = 1
  · rw [if_pos k]; split <;> omega
  · rw [if_neg k]
    rcases stW_ok h with ⟨k1, -⟩ | ⟨a0, a1, b0, b1, hk⟩
    · exact absurd k1 k
    · exact stL_len s (set_len (ho.get a0 a1).1) (set_len (ho.get b0 b1).1)
theorem stW_le {s : St} {V : List Int} (h : stW s V ≠ 0) (hV : ∀ v ∈ V, v ≤ 8) : stW s V ≤ 8 := by
  rw [stW_val h]
  have hg : ∀ i : Nat, V.getD i 0 ≤ 8 := fun i => by
    rw [List.getD_eq_getElem?_getD]
    cases e : V[i]? with
    | none => simp
    | some v => simpa using hV v (List.mem_of_getElem? e)
  unfold wv
  rcases stW_ok h with ⟨k1, -⟩ | ⟨a0, a1, b0, b1, hk⟩
  · rw [if_pos k1]; omega
  · have := hg s.a.toNat
    rcases hk with ⟨q, hk⟩ | ⟨q, hk⟩ | ⟨q, hk⟩ | ⟨q, hk⟩ | q | ⟨q, hk⟩ | ⟨q, hk⟩ <;> (repeat' split) <;> omega
theorem setsOf_getD {LL : List LR} {i : Nat} (h : i < LL.length) : (setsOf LL).getD i [] = its LL[i].L := by
  rw [List.getD_eq_getElem?_getD, setsOf, List.getElem?_map, List.getElem?_eq_getElem h]; rfl
end Go.Proofs.YtldlmkfigjicgaaGreatDoor
