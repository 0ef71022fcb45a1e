/- ToA -/
import Derived.Test.YtldlmkfigjicgaaGreatDoorCk13
import Derived.Test.YtldlmkfigjicgaaGreatDoorCk11
import Derived.Deep.RegionLaw
/- viewref.Total. -/
namespace Go.Proofs.YtldlmkfigjicgaaGreatDoor
set_option linter.unusedVariables false
set_option linter.unusedSimpArgs false
open Go.ChangeShapes Go.WideShapes Go.ChangeAt Go.RowKit

theorem elem_rowint : Elem Tryz.prog 130 30 1 24 := ⟨Tryz.underlying130, by
  obtain ⟨i, hi, hz, hs, hb⟩ := info_parts (P := Tryz.prog) (e := 30) (z := .slice none 0 0) (size := 1) (bytes := 24) (by kernel_rfl)
  exact ⟨i, _, hi, hz, hs, hb, rfl⟩, by decide⟩
theorem Row.one {w : World} {B : Nat} {A : Option Addr} {L : List IR} (h : Row w B A (L.flatMap IR.one)) {k : Nat} (hk : k < L.length) :
    ∃ b off, A = some ⟨b, off, none⟩ ∧ b < B ∧ w.cell? ⟨b, off + k, none⟩ = some (.slice L[k].A L[k].row.length L[k].k) := by
  obtain ⟨b, off, h1, h2, h3⟩ := Row.flat IR.one_len h (by omega) hk
  have := h3 0 _ rfl
  rw [Nat.mul_one, Nat.add_zero] at this
  exact ⟨b, off, h1, h2, this⟩
theorem one_one (L : List IR) : ∀ u ∈ L.flatMap IR.one, u.oneCell' = true := fun u hu => by
  obtain ⟨x, -, hx⟩ := List.mem_flatMap.1 hu
  rw [List.mem_singleton.1 hx]; rfl
theorem ownsMap_step {H : Type} {P : Program} {k : TypeId} {R : Value → Option (DataW H × List MemPlace)} {b n : Nat} {D : DataW H} {w w' : World} (h : w.ownsMap P k R b n D) (hb : Below w.heap.size w w') : w'.ownsMap P k R b n D :=
  h.kept (row := none) ⟨hb.os, hb.tape, hb.output, hb.size, fun k hk _ => hb.block k hk⟩ (by simp)
theorem icT_one (l : List Int) : ∀ u ∈ icells' l, u.oneCell' = true := by
  intro u hu
  obtain ⟨x, -, rfl⟩ := List.mem_map.1 hu
  rfl
/-- An item told anew. -/
structure TotNew (wj wX w7 : World) (v v7 : Value) (A : Option Addr) (r : List Int) (c : Nat) (n : Int) : Prop where
  b : Below wj.heap.size wj wX
  ro : RowOwn wX A r c
  hi : ∀ b off q, A = some ⟨b, off, q⟩ → wj.heap.size ≤ b ∧ b < wX.heap.size
  g : (wX.alloc (.cells #[.slice A r.length c, .int .i64 n] 67)).grownBy w7 v.ownBlock
  i : v7.ownBlock = v.ownBlock ∨ v7.ownBlock = some (wX.alloc (.cells #[.slice A r.length c, .int .i64 n] 67)).heap.size
/-- What is asked of a list to be totalled. -/
structure TotOk (M : List IR) : Prop where
  len : M.length ≤ 4194304
  row : ∀ x ∈ M, x.row.length ≤ 1048576
  num : ∀ x ∈ M, In64 x.row
set_option maxHeartbeats 8000000 in
set_option maxRecDepth 100000 in
theorem total_any (M : List IR) (A : Option Addr) (c : Nat) (w : World) (hr : RowI w w.heap.size A M) (hok : TotOk M) (ht : Pow w) :
    Calls Tryz.prog 64 #[.slice A M.length c] w (ItsPost (sumL (its M)) w) := by
  have HR := hid hr
  have HT := hid ht
  have HOK := hid hok
  have hlen := hok.len
  clear hr ht hok
  have hmm := @run_makeMap Tryz.prog
  go_enter Tryz.func64, Tryz.ntmps64
  go_wp2_with fail
  -- STOP-a
  clear hmm
  go_loopw [4] (fun s4 wr => ∃ i : Nat, i ≤ M.length ∧ s4 = .int .i64 i ∧ (∃ D : DataW Unit, Hid (SMap (wt ((its M).take i)) D) ∧ Hid (wr.ownsMap Tryz.prog 9 (plainElem Tryz.prog 3) w.heap.size i D)) ∧ Hid (Below w.heap.size w wr)) (fun s4 _ => M.length - (intOf s4).toNat)
  case atStart => exact ⟨0, by omega, rfl, ⟨_, hid SMap.nil, hid (World.ownsMap_made _ _ _ _)⟩, hid ((Below.refl _ _).alloc (Nat.le_refl _) _)⟩
  case round =>
    obtain ⟨i, hi, rfl, ⟨D, HSM, HOW⟩, HB⟩ := hrel
    obtain ⟨wo, rfl⟩ : ∃ wx : World, wx = wr := ⟨_, rfl⟩
    by_cases hlt : i < M.length
    · have t1 : ((i : Int) < (M.length : Int)) = True := eq_true (by omega)
      obtain ⟨b, off, rfl, hb, h0, h1⟩ := (HR.out.1.below HB.out (Nat.le_refl _)).it hlt
      have hmem := List.getElem_mem hlt
      have HROW := hid ((HR.out.2 _ hmem).1.below HB.out (Nat.le_refl _))
      have hrl := HOK.out.row _ hmem
      have hin := HOK.out.num _ hmem
      have HW := hid (fun q => wt_take_succ q (its M) (k := i) (by rw [its_len]; exact hlt))
      simp only [its, List.getElem_map, IR.it] at HW
      have hlt' : i < (its M).length := by rw [its_len]; exact hlt
      clear hmem
      generalize M[i].row = r at *
      generalize M[i].A = rA at *
      generalize M[i].k = rk at *
      generalize M[i].n = rn at *
      have hnl : (nameB r).length ≤ maxLen := by have := nameB_len hin; simp only [maxLen]; omega
      have HKY := hid (keyOf_N hnl)
      have HNM := hid (fun w1 (hb1 : Below wo.heap.size wo w1) => name_any r rA rk w1 ((HROW.out.more HB.out.size).step hb1) hrl hin (Pow.step HT.out (Below.step' HB.out hb1)))
      have hil : i < maxLen := by simp only [maxLen]; omega
      have HZ := hid (fun w1 => zero_int w1)
      have hbd : Below wo.heap.size wo wo.drew := (Below.refl _ _).drew
      have hbo : b < wo.heap.size := Nat.lt_of_lt_of_le hb HB.out.size
      go_wp2_with fail
      -- STOP-b
      go_region_law
        (first
          | (go_simp; go_at_call 90; (with_reducible refine (HNM.out _ hbd).mono ?_); rintro e w5 ⟨rfl, hb5⟩; have h05 := ((bcell (Below.step' hbd hb5)).1 b _ hbo).trans h0; have h15 := ((bcell (Below.step' hbd hb5)).1 b _ hbo).trans h1; obtain ⟨cc, hlk, hat, -⟩ := World.ownsMap.lookup_int (ownsMap_step HOW.out (Below.step' hbd hb5)) str_law Tryz.underlying128 Tryz.underlying3 (HZ.out w5) HKY.out; obtain ⟨w6, hup, how6, hg6⟩ := World.ownsMap.update (ownsMap_step HOW.out (Below.step' hbd hb5)) str_law Tryz.underlying128 hil HKY.out (plainElem_int Tryz.underlying3 (wf_i64' (wrp (cc + rn)) (wrp_wrp _)))))
      -- STOP-c
      all_goals
        go_wp2_with fail
        go_roundw
        case rel =>
          have hcc := HSM.out.at hat
          refine ⟨i + 1, by omega, by go_num, ⟨_, hid (HSM.out.put r (wrp (cc + rn)) fun q => ?_), hid how6⟩, hid ((Below.step' HB.out (Below.step' hbd hb5)).grown hg6 (Nat.le_trans HB.out.size (Nat.le_trans hbd.size hb5.size)) (fun g e => by injection e with e; omega))⟩
          rw [HW.out q, hcc]
          by_cases e : q = r
          · rw [if_pos e, if_pos e.symm, e]
          · rw [if_neg e, if_neg (Ne.symm e)]
        case measure => simp [intOf]; omega
    · have t1 : ((i : Int) < (M.length : Int)) = False := eq_false (by omega)
      have him : i = M.length := by omega
      have hsm := HSM.out
      rw [him, List.take_of_length_le (by rw [its_len]; exact Nat.le_refl _)] at hsm
      have HS := hid hsm
      clear HSM hsm him
      have hsz := HB.out.size
      go_wp2_with fail
      -- STOP-d
      go_loopw [5, 6] (fun s5 s6 wr => ∃ k : Nat, k ≤ M.length ∧ s6 = .int .i64 k ∧ Hid (wr.ownsRow wo.heap.size 30 1 s5 k ((M.take k).flatMap IR.one)) ∧ Hid (Below wo.heap.size wo wr)) (fun _ s6 _ => M.length - (intOf s6).toNat)
      case atStart => exact ⟨0, by omega, rfl, hid (World.ownsRow_nil _ _ _ _), hid (Below.refl _ _)⟩
      case round =>
        obtain ⟨k, hk, rfl, HOR, HBK⟩ := hrel
        obtain ⟨wk, rfl⟩ : ∃ wx : World, wx = wr := ⟨_, rfl⟩
        obtain ⟨A5, c5, rfl⟩ := own_formS HOR.out
        have hszk := HBK.out.size
        by_cases hkl : k < M.length
        · have t1 : ((k : Int) < (M.length : Int)) = True := eq_true (by omega)
          obtain ⟨b, off, rfl, hb, h0, -⟩ := (HR.out.1.below (Below.step' HB.out HBK.out) (Nat.le_refl _)).it hkl
          have HST := hid (show (M.take (k + 1)).flatMap IR.one = (M.take k).flatMap IR.one ++ [.slice M[k].A M[k].row.length M[k].k] by rw [List.take_succ_eq_append_getElem hkl, List.flatMap_append]; rfl)
          generalize M[k].row = r at *
          generalize M[k].A = rA at *
          generalize M[k].k = rk at *
          have hnb : b < wk.heap.size := by omega
          go_wp2_with (at_builtin; refine wpList_append_row elem_rowint rfl _ _ rfl wo.heap.size _ _ _ rfl (HOR.out.alloc _) (some ⟨wk.heap.size, 0, none⟩) 1 1 (wk.heap.size + 1) [.slice rA r.length rk] rfl rfl (Row.new' _ _ _ rfl rfl (Nat.lt_succ_self _)) (fun u hu => by rw [List.mem_singleton.1 hu]; rfl) ?_ ?_ ?_ ?_; rotate_right; intro v7 w7 hown7 hg7 hif7; rotate_left; (simp only [maxLen]; omega); (omega); (simp; omega))
          -- STOP-e
          go_roundw
          case rel =>
            refine ⟨k + 1, by omega, by go_num, ?_, hid ((HBK.out.alloc hszk _).grown hg7 (by simp; omega) (fun g e => (HOR.out.lt g e).1))⟩
            rw [HST.out]
            exact hid hown7
          case measure => simp [intOf]; omega
        · have t1 : ((k : Int) < (M.length : Int)) = False := eq_false (by omega)
          have hkm : k = M.length := by omega
          subst hkm
          have hor := HOR.out
          rw [List.take_of_length_le (Nat.le_refl _)] at hor
          have HQ := fun x (hx : x ∈ M) => show RowQ wk wo.heap.size x from ⟨((HR.out.2 x hx).1.below (Below.step' HB.out HBK.out) (Nat.le_refl _)).more hsz, (HR.out.2 x hx).2⟩
          have HSO := hid (sortRows_own M wk hor HQ hszk (by omega))
          have HOR2 := hid hor
          clear hor HQ HOR
          go_wp2_with fail
          -- STOP-f
          refine HSO.out.mono ?_
          rintro e w2 ⟨rfl, L', hperm, hris, hown2, hg2⟩
          have HB1 := hid (Below.step' HB.out HBK.out)
          have HB2 := hid (HB1.out.grown hg2 HB1.out.size (fun g e => Nat.le_trans hsz (HOR2.out.lt g e).1))
          have HRS := hid hris
          have hln : L'.length = M.length := hperm.length_eq
          have HRX := hid (show Row w2 w2.heap.size A5 (L'.flatMap IR.one) from Row.of_ownS hown2)
          have hs2 : w.heap.size ≤ w2.heap.size := HB2.out.size
          have HRB : Hid (∀ x ∈ L', (Row w2 w2.heap.size x.A (icells' x.row) ∧ x.row.length ≤ 1048576) ∧ In64 x.row) := hid (fun x hx =>
            have hm := hperm.mem_iff.1 hx
            ⟨⟨((HR.out.2 x hm).1.below HB2.out (Nat.le_refl _)).more hs2, HOK.out.row x hm⟩, HOK.out.num x hm⟩)
          have HEND := hid (fun S (h : TotI (wt (its M)) (L'.map IR.row) (L'.map IR.row).length S) => totI_end h (fun x hx => by
            obtain ⟨y, hy, rfl⟩ := List.mem_map.1 hx
            exact List.mem_map.2 ⟨y, hperm.mem_iff.2 hy, rfl⟩))
          have HOW2 := hid ((ownsMap_step HOW.out HBK.out).kept hg2 (fun e => by have := (HOR2.out.lt _ e.symm).1; have := HOW.out.lt; omega))
          have HFW := hid (fun r => show wrp (wt (its M) r) = wt (its M) r from wrp_wrp _)
          have HT2 := hid (Pow.step HT.out HB2.out)
          obtain ⟨F, hF⟩ : ∃ F, F = wt (its M) := ⟨_, rfl⟩
          rw [← hF] at HS HEND HFW
          clear hF hperm hris hown2 hg2 HSO HOR2 HB1 HBK HB HR HOK hlt hi hk
          go_wp2_with fail
          -- STOP-g
          have HLN := hid hln
          clear hln
          go_loopw [7, 8] (fun s7 s8 wr => ∃ (j : Nat) (S : List IR), j ≤ M.length ∧ s8 = .int .i64 j ∧ S.length ≤ j ∧ Hid (TotI F (L'.map IR.row) j (its S)) ∧ Hid (wr.ownsRow w2.heap.size 67 2 s7 S.length (rcells S)) ∧ Hid (RowsNew wr w2.heap.size s7 S) ∧ Hid (Below w2.heap.size w2 wr)) (fun _ s8 _ => M.length - (intOf s8).toNat)
          case atStart => exact ⟨0, [], by omega, rfl, by simp, hid (totI_nil _ _), hid (World.ownsRow_nil _ _ _ _), hid (RowsNew.nil _ _ _), hid (Below.refl _ _)⟩
          case round =>
            obtain ⟨j, S, hj, rfl, hSj, HTI, HOWN, HNEW, HB⟩ := hrel
            obtain ⟨wj, rfl⟩ : ∃ wx : World, wx = wr := ⟨_, rfl⟩
            obtain ⟨A7, c7, rfl⟩ := own_formS HOWN.out
            have hs3 := HB.out.size
            by_cases hlt : j < M.length
            · have t1 : ((j : Int) < (M.length : Int)) = True := eq_true (by omega)
              have hlt' : j < L'.length := by have := HLN.out; omega
              have HRXo := hid (HRX.out.step HB.out)
              obtain ⟨b, off, rfl, hb, h0⟩ := HRXo.out.one hlt'
              have hmem := List.getElem_mem hlt'
              have HROW := hid ((HRB.out _ hmem).1.1.step HB.out)
              have hrl := (HRB.out _ hmem).1.2
              have HIN := hid (HRB.out _ hmem).2
              have HPRE : Hid (∀ h : 0 < j, ∃ (y : List Int) (yA : Option Addr) (yk : Nat), wj.cell? ⟨b, off + (j - 1), none⟩ = some (.slice yA y.length yk) ∧ Row wj wj.heap.size yA (icells' y) ∧ y.length ≤ 1048576 ∧ y = L'[j - 1].row) := hid fun h => by
                obtain ⟨b2, off2, hA2, hb2, g0⟩ := HRXo.out.one (show j - 1 < L'.length by omega)
                injection hA2 with hA2
                injection hA2 with hA3 hA4
                subst hA3
                subst hA4
                have hm2 := List.getElem_mem (show j - 1 < L'.length by omega)
                exact ⟨L'[j - 1].row, L'[j - 1].A, L'[j - 1].k, g0, (HRB.out _ hm2).1.1.step HB.out, (HRB.out _ hm2).1.2, rfl⟩
              obtain ⟨r, hr⟩ : ∃ r, r = L'[j].row := ⟨_, rfl⟩
              have HRR := hid hr
              rw [← hr] at h0 HROW hrl HIN
              clear hr hmem HRXo
              generalize L'[j].A = rA at *
              generalize L'[j].k = rk at *
              have hbo : b < wj.heap.size := hb
              obtain ⟨cF, hcF⟩ : ∃ q, q = F r := ⟨_, rfl⟩
              have HCF := hid hcF
              have hnl : (nameB r).length ≤ maxLen := by have := nameB_len HIN.out; simp only [maxLen]; omega
              have HLK := hid (fun w1 (hb1 : Below wj.heap.size wj w1) => show (Instr.lookup 128 (.map (some w.heap.size)) (.string (bstr (nameB r))) false).run Tryz.prog w1 = .ok (.int .i64 cF) w1 from by
                obtain ⟨cc, hlk, hat, -⟩ := World.ownsMap.lookup_int (ownsMap_step HOW2.out (Below.step' HB.out hb1)) str_law Tryz.underlying128 Tryz.underlying3 (zero_int w1) (keyOf_N hnl)
                rw [hlk, HS.out.at hat, hcF])
              have HNM := hid (fun w1 (hb1 : Below wj.heap.size wj w1) => name_any r rA rk w1 (HROW.out.step hb1) hrl HIN.out (Pow.step HT2.out (Below.step' HB.out hb1)))
              clear hnl hcF
              obtain ⟨sk, hsk⟩ : ∃ sk : Bool, sk = ((if h : 0 < j then decide (cmpL L'[j - 1].row r = 0) else false) || decide (cF = 0)) := ⟨_, rfl⟩
              have HSK := hid hsk
              clear hsk
              have hbd : Below wj.heap.size wj wj.drew := (Below.refl _ _).drew
              go_upto_region 16 with fail
              -- STOP-h
              go_cut [76] from 52 to 76 (fun s wx => s = .bool sk ∧ Hid (Below wj.heap.size wj wx))
              case first =>
                have hlx : ∀ x : Ext wj.heap.size wj, (Instr.lookup 128 (.map (some w.heap.size)) (.string (bstr (nameB r))) false).run Tryz.prog x.w = .ok (.int .i64 cF) x.w := fun x => HLK.out x.w x.below
                by_cases hj0 : 0 < j
                · obtain ⟨y, yA, yk, g0, g1, g2, g3⟩ := HPRE.out hj0
                  have HORD := hid (fun w1 (hb1 : Below wj.heap.size wj w1) => (Rorder_any y r yA rA yk rk w1 (g1.step hb1) (HROW.out.step hb1) (by omega) (by omega)).mono fun e w' ⟨he, hq⟩ => (⟨he, by obtain ⟨q, hq⟩ := hq; rw [hq]; exact below_drewN (Below.refl _ _) q⟩ : e = Ending.returned (.int .i64 (cmpL y r)) ∧ Below w1.heap.size w1 w'))
                  obtain ⟨cv, hcv⟩ : ∃ q, q = cmpL y r := ⟨_, rfl⟩
                  rw [← hcv] at HORD
                  have HSW : Hid (sk = (decide (cv = 0) || decide (cF = 0))) := hid (by rw [HSK.out, dif_pos hj0, ← g3, ← hcv])
                  have hi1 : (0 : Int) < (j : Int) := by omega
                  have hw1 : IntKind.i64.wrap ((j : Int) - 1) = (j : Int) - 1 := IntWalk.i64_in _ (by omega)
                  have hi2 : ((j : Int) - 1).toNat = j - 1 := by omega
                  have hi3 : (0 : Int) ≤ (j : Int) - 1 := by omega
                  have hi4 : (1 : Int) ≤ (j : Int) := by omega
                  have hi5 : (j : Int) - 1 < (M.length : Int) := by omega
                  clear hcv g1 g3
                  by_cases hc : cv = 0
                  · have t2 : (cv == 0) = true := by simp [hc]
                    have HSV : Hid (sk = true) := hid (by rw [HSW.out, decide_eq_true hc]; rfl)
                    clear hc
                    go_wp2
                    refine region_ext (by kernel_rfl) (by kernel_rfl) (fun hext => ?_)
                    repeat (any_goals ((with_reducible refine wpQuiet_step (fun K hK => ?_)); go_simp; first | (with_reducible refine hK _ ?_; clear hK K) | ((with_reducible apply Exists.intro); (with_reducible refine ⟨fun _ => ?_, hK _ ?_⟩); ((first | (go_at_call 17; exact ext_call _ (Nat.le_refl _) (HORD.out _ (Ext.below _))) | (go_at_call 90; exact ext_call _ (Nat.le_refl _) (HNM.out _ (Ext.below _))))); clear hK K) | ((with_reducible refine (if_neg ?_).mpr (hK _ ?_)); (decide); clear hK K) | (split <;> (with_reducible refine hK _ ?_; clear hK K))))
                    all_goals ((with_reducible refine wpQuiet_nil ?_); clear hext; intro w1 hx1; have hb1 := ext_below hx1; clear hx1)
                    go_wp2
                    all_goals
                      go_meet
                      case rel => exact ⟨by rw [HSV.out], hid hb1⟩
                  · have t2 : (cv == 0) = false := by simp [hc]
                    by_cases hz : cF = 0
                    · have t3 : (cF == 0) = true := by simp [hz]
                      have HSV : Hid (sk = true) := hid (by rw [HSW.out, decide_eq_true hz, Bool.or_true])
                      clear hc hz
                      go_wp2
                      refine region_ext (by kernel_rfl) (by kernel_rfl) (fun hext => ?_)
                      repeat (any_goals ((with_reducible refine wpQuiet_step (fun K hK => ?_)); go_simp; first | (with_reducible refine hK _ ?_; clear hK K) | ((with_reducible apply Exists.intro); (with_reducible refine ⟨fun _ => ?_, hK _ ?_⟩); ((first | (go_at_call 17; exact ext_call _ (Nat.le_refl _) (HORD.out _ (Ext.below _))) | (go_at_call 90; exact ext_call _ (Nat.le_refl _) (HNM.out _ (Ext.below _))))); clear hK K) | ((with_reducible refine (if_neg ?_).mpr (hK _ ?_)); (decide); clear hK K) | (split <;> (with_reducible refine hK _ ?_; clear hK K))))
                      all_goals ((with_reducible refine wpQuiet_nil ?_); clear hext; intro w1 hx1; have hb1 := ext_below hx1; clear hx1)
                      go_wp2
                      all_goals
                        go_meet
                        case rel => exact ⟨by rw [HSV.out], hid hb1⟩
                    · have t3 : (cF == 0) = false := by simp [hz]
                      have HSV : Hid (sk = false) := hid (by rw [HSW.out, decide_eq_false hc, decide_eq_false hz]; rfl)
                      clear hc hz
                      go_wp2
                      refine region_ext (by kernel_rfl) (by kernel_rfl) (fun hext => ?_)
                      repeat (any_goals ((with_reducible refine wpQuiet_step (fun K hK => ?_)); go_simp; first | (with_reducible refine hK _ ?_; clear hK K) | ((with_reducible apply Exists.intro); (with_reducible refine ⟨fun _ => ?_, hK _ ?_⟩); ((first | (go_at_call 17; exact ext_call _ (Nat.le_refl _) (HORD.out _ (Ext.below _))) | (go_at_call 90; exact ext_call _ (Nat.le_refl _) (HNM.out _ (Ext.below _))))); clear hK K) | ((with_reducible refine (if_neg ?_).mpr (hK _ ?_)); (decide); clear hK K) | (split <;> (with_reducible refine hK _ ?_; clear hK K))))
                      all_goals ((with_reducible refine wpQuiet_nil ?_); clear hext; intro w1 hx1; have hb1 := ext_below hx1; clear hx1)
                      go_wp2
                      all_goals
                        go_meet
                        case rel => exact ⟨by rw [HSV.out], hid hb1⟩
                · have HSW : Hid (sk = decide (cF = 0)) := hid (by rw [HSK.out, dif_neg hj0, Bool.false_or])
                  have hi1 : decide ((0 : Int) < (j : Int)) = false := decide_eq_false (by omega)
                  have hi2 : ¬ (0 : Int) < (j : Int) := by omega
                  by_cases hz : cF = 0
                  · have t3 : (cF == 0) = true := by simp [hz]
                    have HSV : Hid (sk = true) := hid (by rw [HSW.out, decide_eq_true hz])
                    clear hz
                    go_wp2
                    refine region_ext (by kernel_rfl) (by kernel_rfl) (fun hext => ?_)
                    repeat (any_goals ((with_reducible refine wpQuiet_step (fun K hK => ?_)); go_simp; first | (with_reducible refine hK _ ?_; clear hK K) | ((with_reducible apply Exists.intro); (with_reducible refine ⟨fun _ => ?_, hK _ ?_⟩); ((go_at_call 90; exact ext_call _ (Nat.le_refl _) (HNM.out _ (Ext.below _)))); clear hK K) | ((with_reducible refine (if_neg ?_).mpr (hK _ ?_)); (decide); clear hK K) | (split <;> (with_reducible refine hK _ ?_; clear hK K))))
                    all_goals ((with_reducible refine wpQuiet_nil ?_); clear hext; intro w1 hx1; have hb1 := ext_below hx1; clear hx1)
                    go_wp2
                    all_goals
                      go_meet
                      case rel => exact ⟨by rw [HSV.out], hid hb1⟩
                  · have t3 : (cF == 0) = false := by simp [hz]
                    have HSV : Hid (sk = false) := hid (by rw [HSW.out, decide_eq_false hz])
                    clear hz
                    go_wp2
                    refine region_ext (by kernel_rfl) (by kernel_rfl) (fun hext => ?_)
                    repeat (any_goals ((with_reducible refine wpQuiet_step (fun K hK => ?_)); go_simp; first | (with_reducible refine hK _ ?_; clear hK K) | ((with_reducible apply Exists.intro); (with_reducible refine ⟨fun _ => ?_, hK _ ?_⟩); ((go_at_call 90; exact ext_call _ (Nat.le_refl _) (HNM.out _ (Ext.below _)))); clear hK K) | ((with_reducible refine (if_neg ?_).mpr (hK _ ?_)); (decide); clear hK K) | (split <;> (with_reducible refine hK _ ?_; clear hK K))))
                    all_goals ((with_reducible refine wpQuiet_nil ?_); clear hext; intro w1 hx1; have hb1 := ext_below hx1; clear hx1)
                    go_wp2
                    all_goals
                      go_meet
                      case rel => exact ⟨by rw [HSV.out], hid hb1⟩
              case rest =>
                obtain ⟨rfl, HB8⟩ := hcut
                obtain ⟨wq, rfl⟩ : ∃ wx : World, wx = wc := ⟨_, rfl⟩
                -- STOP-i
                have hRl : j < (L'.map IR.row).length := by rw [List.length_map]; exact hlt'
                have hRj : (L'.map IR.row)[j] = r := by rw [List.getElem_map, HRR.out]
                have hrp : ∀ h : 0 < j, (L'.map IR.row)[j - 1]'(by omega) = L'[j - 1].row := fun h => by rw [List.getElem_map]
                cases sk
                · have hz : cF ≠ 0 := fun e => by
                    have := HSK.out
                    rw [decide_eq_true e, Bool.or_true] at this
                    cases this
                  have HTM := hid (show TotI F (L'.map IR.row) (j + 1) (its S ++ [(r, cF)]) from by
                    have h := totI_more HRS.out HTI.out hRl (fun h0 => by
                      rw [hrp h0, hRj]
                      intro e
                      have := HSK.out
                      rw [dif_pos h0, decide_eq_true e] at this
                      cases this) (by rw [hRj, ← HCF.out]; exact hz) (by rw [hRj]; exact HFW.out r)
                    rw [hRj, ← HCF.out] at h
                    exact h)
                  clear hRl hRj hrp hz
                  have hbd8 : Below wj.heap.size wj wq.drew := Below.drew HB8.out
                  have HRW := hid (fun w1 (hb1 : Below wj.heap.size wj w1) => HROW.out.step hb1)
                  have hrl1 : (icells' r).length = r.length * 1 := by simp
                  have hmxr : 0 + r.length ≤ maxLen := by simp only [maxLen]; omega
                  have hbyr : (0 + r.length) * 8 ≤ 140737488355328 := by omega
                  have hmx3 : S.length + 1 ≤ maxLen := by simp only [maxLen]; omega
                  have hby3 : (S.length + 1) * 32 ≤ 140737488355328 := by omega
                  have h08 := ((bcell HB8.out).1 b _ hbo).trans h0
                  go_upto_region 17 with fail
                  -- STOP-j
                  go_region_law
                    (first
                      | (go_simp; go_at_call 90; (with_reducible refine (HNM.out _ hbd8).mono ?_); rintro e w5 ⟨rfl, hb5⟩; have hbN : Below wj.heap.size wj w5 := Below.step' hbd8 hb5; have h05 := ((bcell hbN).1 b _ hbo).trans h0; have hlk5 := HLK.out w5 hbN)
                      | (go_simp; go_at_call 90; (with_reducible refine (HNM.out _ hbA).mono ?_); rintro e w5 ⟨rfl, hb5⟩; have hbN : Below wj.heap.size wj w5 := Below.step' hbA hb5; have h05 := ((bcell hbN).1 b _ hbo).trans h0; have hlk5 := HLK.out w5 hbN; have hro5 := hroA.step hb5; have hin5 : ∀ b off q, A6 = some ⟨b, off, q⟩ → wj.heap.size ≤ b ∧ b < w5.heap.size := fun b off q e => ⟨(hinA b off q e).1, Nat.lt_of_lt_of_le (hinA b off q e).2 hb5.size⟩)
                      | (refine step_append_row elem_int (by rfl) _ _ (by rfl) wj.heap.size (.slice none 0 0) 0 [] (by rfl) (World.ownsRow_nil _ _ _ _) rA r.length rk _ (icells' r) (by rfl) hrl1 (HRW.out _ hbd8) (icT_one r) hmxr hbyr (Below.size hbd8) ?_; intro vA wA hownA hgA hifA; rw [Nat.zero_add, List.nil_append] at hownA; obtain ⟨A6, c6, rfl⟩ := own_formS hownA; have hbA : Below wj.heap.size wj wA := Below.grown hbd8 hgA (Below.size hbd8) (fun g e => nomatch e); have h0A := ((bcell hbA).1 b _ hbo).trans h0; have hlkA := HLK.out wA hbA; have hroA : RowOwn wA A6 r c6 := RowOwn.of_own hownA rfl; have hinA : ∀ b off q, A6 = some ⟨b, off, q⟩ → wj.heap.size ≤ b ∧ b < wA.heap.size := fun b off q e => hownA.lt b (by rw [e]; rfl))
                      | (refine step_append_row elem_int (by rfl) _ _ (by rfl) wj.heap.size (.slice none 0 0) 0 [] (by rfl) (World.ownsRow_nil _ _ _ _) rA r.length rk _ (icells' r) (by rfl) hrl1 (HRW.out _ hbN) (icT_one r) hmxr hbyr (Below.size hbN) ?_; intro vA wA hownA hgA hifA; rw [Nat.zero_add, List.nil_append] at hownA; obtain ⟨A6, c6, rfl⟩ := own_formS hownA; have hbA : Below wj.heap.size wj wA := Below.grown hbN hgA (Below.size hbN) (fun g e => nomatch e); have h0A := ((bcell hbA).1 b _ hbo).trans h0; have hlkA := HLK.out wA hbA; have hroA : RowOwn wA A6 r c6 := RowOwn.of_own hownA rfl; have hinA : ∀ b off q, A6 = some ⟨b, off, q⟩ → wj.heap.size ≤ b ∧ b < wA.heap.size := fun b off q e => hownA.lt b (by rw [e]; rfl))
                      | (refine step_append_row elem_item (by rfl) _ _ (by rfl) w2.heap.size (.slice A7 S.length c7) S.length (rcells S) (by rfl) (World.ownsRow.alloc (own_laterS HOWN.out hbN) _) (some ⟨w5.heap.size, 0, none⟩) 1 1 (w5.heap.size + 1) [.slice A6 r.length c6, .int .i64 cF] (by rfl) (by rfl) (Row.new' w5 _ _ rfl rfl (Nat.lt_succ_self _)) (rcells_one [⟨r, A6, c6, cF⟩]) hmx3 hby3 (Nat.le_trans (Nat.le_trans hs3 (Below.size hbN)) (le_alloc _ _)) ?_; intro v7 w7 hown7 hg7 hif7; have HX : Hid (TotNew wj w5 w7 (.slice A7 S.length c7) v7 A6 r c6 cF) := hid ⟨hbN, hro5, hin5, hg7, hif7⟩)
                      | (refine step_append_row elem_item (by rfl) _ _ (by rfl) w2.heap.size (.slice A7 S.length c7) S.length (rcells S) (by rfl) (World.ownsRow.alloc (own_laterS HOWN.out hbA) _) (some ⟨wA.heap.size, 0, none⟩) 1 1 (wA.heap.size + 1) [.slice A6 r.length c6, .int .i64 cF] (by rfl) (by rfl) (Row.new' wA _ _ rfl rfl (Nat.lt_succ_self _)) (rcells_one [⟨r, A6, c6, cF⟩]) hmx3 hby3 (Nat.le_trans (Nat.le_trans hs3 (Below.size hbA)) (le_alloc _ _)) ?_; intro v7 w7 hown7 hg7 hif7; have HX : Hid (TotNew wj wA w7 (.slice A7 S.length c7) v7 A6 r c6 cF) := hid ⟨hbA, hroA, hinA, hg7, hif7⟩))
                  -- STOP-k
                  all_goals
                    go_wp2_with fail
                    have HOWN9 := hid hown7
                    clear hown7 hg7 hif7
                    go_roundw
                    -- STOP-l
                    case rel =>
                      obtain ⟨hbX, hroX, hinX, hgX, hifX⟩ := HX.out
                      have hsX := hbX.size
                      have hba := hbX.alloc hsX (.cells #[.slice A6 r.length c6, .int .i64 cF] 67)
                      have hA6 : ∀ b off q, A6 = some ⟨b, off, q⟩ → some b ≠ (Value.slice A7 S.length c7).ownBlock := fun b off q e e2 => by
                        have q1 := (hinX b off q e).1
                        have q2 := (HOWN.out.lt b e2.symm).2
                        omega
                      refine ⟨j + 1, S ++ [⟨r, A6, c6, cF⟩], by omega, by go_num, by simp; omega, hid ?_, hid ?_, hid ?_, hid ?_⟩
                      · show TotI F _ _ ((S ++ [(⟨r, A6, c6, cF⟩ : IR)]).map IR.it)
                        rw [List.map_append]
                        exact HTM.out
                      · rw [rcells_snoc, List.length_append]
                        exact HOWN9.out
                      · refine RowsNew.snoc ((HNEW.out.step hba).grown hgX hifX) (x := (⟨r, A6, c6, cF⟩ : IR)) (((hroX.step (alloc_below (Below.refl _ _) _)).grown_ne (Nat.le_refl _) hgX hA6).more hgX.size) (fun b off q e => Nat.le_trans hs3 (hinX b off q e).1) (fun b off q e => ?_) hrl
                        have q1 := hinX b off q e
                        have hsz7 := hgX.size
                        simp at hsz7
                        refine ⟨?_, by omega⟩
                        rcases hifX with h | h
                        · rw [h]; exact hA6 b off q e
                        · rw [h]
                          intro e2
                          injection e2 with e2
                          simp at e2
                          omega
                      · exact ((HB.out.trans (hba.mono hs3))).grown hgX (by have := hgX.size; simp; omega) (fun g e => (HOWN.out.lt g e).1)
                    case measure => simp [intOf]; omega
                · have HTS := hid (show TotI F (L'.map IR.row) (j + 1) (its S) from by
                    by_cases hz : cF = 0
                    · exact totI_none HTI.out hRl (by rw [hRj, ← HCF.out]; exact hz)
                    · have := HSK.out
                      rw [decide_eq_false hz, Bool.or_false] at this
                      by_cases h0 : 0 < j
                      · rw [dif_pos h0] at this
                        exact totI_twice HTI.out hRl h0 (by rw [hrp h0, hRj]; exact of_decide_eq_true this.symm)
                      · rw [dif_neg h0] at this
                        cases this)
                  clear hRl hRj hrp
                  go_wp2_with fail
                  -- STOP-m
                  go_roundw
                  case rel => exact ⟨j + 1, S, by omega, by go_num, by omega, HTS, hid (own_laterS HOWN.out HB8.out), hid (HNEW.out.step HB8.out), hid (Below.step' HB.out HB8.out)⟩
                  case measure => simp [intOf]; omega
            · have t1 : ((j : Int) < (M.length : Int)) = False := eq_false (by omega)
              have hjm : j = M.length := by omega
              go_wp2_with fail
              -- STOP-z
              go_ret
              refine ⟨A7, c7, S, rfl, HEND.out (its S) ?_, own_baseS HOWN.out hs2, ?_, HB2.out.trans (HB.out.mono hs2)⟩
              · rw [List.length_map, HLN.out, ← hjm]; exact HTI.out
              · exact fun x hx => ⟨(HNEW.out x hx).1, newAt_le (HNEW.out x hx).2.1 hs2, (HNEW.out x hx).2.2⟩
end Go.Proofs.YtldlmkfigjicgaaGreatDoor
