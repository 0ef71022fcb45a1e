/- RsC -/
import Derived.Test.YtldlmkfigjicgaaGreatDoorCk15
import Derived.Test.YtldlmkfigjicgaaGreatDoorCk12
import Derived.Test.YtldlmkfigjicgaaGreatDoorCk09
/- viewref.Minus, Rows. -/
namespace Go.Proofs.YtldlmkfigjicgaaGreatDoor
set_option linter.unusedVariables false
set_option linter.unusedSimpArgs false
open Go.ChangeShapes Go.WideShapes Go.ChangeAt Go.RowKit

def negR (x : IR) : IR := ⟨x.row, x.A, x.k, -x.n⟩
theorem its_negR (M : List IR) : its (M.map negR) = negL (its M) := by simp [its, negL, negR, Function.comp_def]
theorem RowsAt.negR {w : World} {B : Nat} {M : List IR} (h : RowsAt w B M) : RowsAt w B (M.map negR) := fun x hx => by
  obtain ⟨y, hy, rfl⟩ := List.mem_map.1 hx
  exact h y hy
set_option maxHeartbeats 4000000 in
set_option maxRecDepth 100000 in
theorem Rminus_map (M : List IR) (A : Option Addr) (c : Nat) (w : World) (hr : RowI w w.heap.size A M) (hs : setI (its M) = 0) :
    Calls Tryz.prog 12 #[.slice A M.length c] w fun e w' => ∃ (A' : Option Addr) (k : Nat), e = .returned (.slice A' (M.map negR).length k) ∧ Row w' w'.heap.size A' (rcells (M.map negR)) ∧ M.length ≤ 400 ∧ Below w.heap.size w w' := by
  have HR := hid hr
  have hl : M.length ≤ 400 := by have := (setI_zero.1 hs).1; rwa [its_len] at this
  have HBD := hid (fun x (hx : x ∈ M) => (badB_false ((setI_zero.1 hs).2.1 x.it (List.mem_map.2 ⟨x, hx, rfl⟩))).2)
  clear hr hs
  go_enter Tryz.func12, Tryz.ntmps12
  go_wp2_with fail
  -- STOP-a
  go_loopw [3, 4] (fun s3 s4 wr => ∃ i : Nat, i ≤ M.length ∧ s4 = .int .i64 i ∧ Hid (wr.ownsRow w.heap.size 67 2 s3 i (rcells ((M.take i).map negR))) ∧ Hid (Below w.heap.size w wr)) (fun _ s4 _ => M.length - (intOf s4).toNat)
  case atStart => exact ⟨0, by omega, rfl, hid (World.ownsRow_nil _ _ _ _), hid (Below.refl _ _)⟩
  case round =>
    obtain ⟨i, hi, rfl, HOWN, HB⟩ := hrel
    obtain ⟨wo, rfl⟩ : ∃ wx : World, wx = wr := ⟨_, rfl⟩
    obtain ⟨A3, c3, rfl⟩ := own_formS HOWN.out
    by_cases hlt : i < M.length
    · have t1 : ((i : Int) < (M.length : Int)) = True := eq_true (by omega)
      obtain ⟨b, off, rfl, hb, h0, h1⟩ := (HR.out.1.below HB.out (Nat.le_refl _)).it hlt
      have HST := hid (show rcells ((M.take (i + 1)).map negR) = rcells ((M.take i).map negR) ++ [.slice M[i].A M[i].row.length M[i].k, .int .i64 (-M[i].n)] by
        rw [List.take_succ_eq_append_getElem hlt, List.map_append, List.map_cons, List.map_nil, rcells_snoc]; rfl)
      have hn := HBD.out _ (List.getElem_mem hlt)
      try simp only [IR.it] at hn
      generalize M[i].row = r at *
      generalize M[i].A = rA at *
      generalize M[i].k = rk at *
      generalize M[i].n = rn at *
      have hwn : IntKind.i64.wrap (-rn) = -rn := IntWalk.i64_in _ (by omega)
      have hal : Below wo.heap.size wo (wo.alloc (.cells #[.slice rA r.length rk, .int .i64 (-rn)] 67)).drew := Below.drew (alloc_below (Below.refl _ _) _)
      have howA : (wo.alloc (.cells #[.slice rA r.length rk, .int .i64 (-rn)] 67)).drew.ownsRow w.heap.size 67 2 (.slice A3 i c3) i (rcells ((M.take i).map negR)) := own_laterS HOWN.out hal
      have rdA : Row (wo.alloc (.cells #[.slice rA r.length rk, .int .i64 (-rn)] 67)).drew (wo.heap.size + 1) (some ⟨wo.heap.size, 0, none⟩) [.slice rA r.length rk, .int .i64 (-rn)] := Row.drew (Row.new' wo _ _ rfl rfl (Nat.lt_succ_self _))
      have hsA : w.heap.size ≤ (wo.alloc (.cells #[.slice rA r.length rk, .int .i64 (-rn)] 67)).drew.heap.size := Nat.le_trans HB.out.size hal.size
      have hmx : i + 1 ≤ maxLen := by simp only [maxLen]; omega
      have hby : (i + 1) * 32 ≤ 140737488355328 := by omega
      go_wp2_with fail
      -- STOP-b
      go_region_law
        (first
          | (refine step_append_row elem_item (by rfl) _ _ (by rfl) w.heap.size (.slice A3 i c3) i (rcells ((M.take i).map negR)) (by rfl) howA (some ⟨wo.heap.size, 0, none⟩) 1 1 (wo.heap.size + 1) [.slice rA r.length rk, .int .i64 (-rn)] (by rfl) (by rfl) rdA (rcells_one [⟨r, rA, rk, -rn⟩]) hmx hby hsA ?_; intro v7 w7 hown7 hg7 hif7))
      -- STOP-c
      all_goals
        go_wp2_with fail
        go_roundw
        case rel =>
          refine ⟨i + 1, by omega, by go_num, ?_, hid ((Below.step' HB.out hal).grown hg7 hsA (fun g e => (HOWN.out.lt g e).1))⟩
          rw [HST.out]
          exact hid hown7
        case measure => simp [intOf]; omega
    · have t1 : ((i : Int) < (M.length : Int)) = False := eq_false (by omega)
      have him : i = M.length := by omega
      subst him
      have hown := HOWN.out
      rw [List.take_of_length_le (Nat.le_refl _)] at hown
      have HO := hid hown
      clear hown
      go_wp2_with fail
      -- STOP-d
      go_ret
      exact ⟨A3, c3, by rw [List.length_map]; rfl, Row.of_ownS HO.out, hl, HB.out⟩
theorem Rminus_any (M : List IR) (A : Option Addr) (c : Nat) (w : World) (hr : RowI w w.heap.size A M) (hs : setI (its M) = 0) :
    Calls Tryz.prog 12 #[.slice A M.length c] w fun e w' => ∃ (A' : Option Addr) (k : Nat) (M' : List IR), e = .returned (.slice A' M'.length k) ∧ its M' = negL (its M) ∧ RowI w' w'.heap.size A' M' ∧ M'.length ≤ 400 ∧ Below w.heap.size w w' := by
  refine (Rminus_map M A c w hr hs).mono ?_
  rintro e w' ⟨A', k, rfl, h1, h2, h3⟩
  exact ⟨A', k, M.map negR, rfl, its_negR M, ⟨h1, ((hr.2.below h3 (Nat.le_refl _)).more h3.size).negR⟩, by rw [List.length_map]; exact h2, h3⟩
/-- A row of a table's under way. -/
def ofv (V : Int → Int → List Int) (key : Int) (j c : Nat) : Int := if c < j then lastI (V key (c : Int)) else 0
abbrev ofBlk (V : Int → Int → List Int) (key : Int) (j : Nat) : Array Value := #[.int .i64 key, .int .i64 (ofv V key j 0), .int .i64 (ofv V key j 1), .int .i64 (ofv V key j 2)]
theorem ofBlk_set (V : Int → Int → List Int) (key : Int) {j : Nat} (h : j < 3) : (ofBlk V key j).setIfInBounds (j + 1) (.int .i64 (lastI (V key (j : Int)))) = ofBlk V key (j + 1) := by
  match j, h with
  | 0, _ => simp [ofBlk, ofv]
  | 1, _ => simp [ofBlk, ofv]
  | 2, _ => simp [ofBlk, ofv]
theorem ofBlk_keep (V : Int → Int → List Int) (key : Int) {j : Nat} (h : j < 3) (h0 : lastI (V key (j : Int)) = 0) : ofBlk V key (j + 1) = ofBlk V key j := by
  match j, h, h0 with
  | 0, _, h0 => simp [ofBlk, ofv] at h0 ⊢; exact h0
  | 1, _, h0 => simp [ofBlk, ofv] at h0 ⊢; exact h0
  | 2, _, h0 => simp [ofBlk, ofv] at h0 ⊢; exact h0
theorem ofBlk_all (V : Int → Int → List Int) (key : Int) : (ofBlk V key 3).toList = icells' (ofRowN V key 3) := by
  have e : List.range 3 = [0, 1, 2] := rfl
  simp [ofBlk, ofv, ofRowN, e]
theorem blk_rowOwn {w : World} {b : Nat} {cs : Array Value} {l : List Int} (h : Blk w b cs 3) (hc : cs.toList = icells' l) (h4 : l.length = 4) : RowOwn w (some ⟨b, 0, none⟩) l 4 :=
  RowOwn.of_own (B := b) (n := 4) ⟨by simp [h4], .inr ⟨b, 4, cs, rfl, Nat.le_refl _, h, Nat.le_refl _, by decide, by rw [← Array.length_toList, hc]; simp [h4], by rw [hc, List.take_of_length_le (by simp [h4])]⟩⟩ h4.symm
set_option maxHeartbeats 8000000 in
set_option maxRecDepth 100000 in
theorem Rrows_any (t : Tab) (A : Option Addr) (k : Nat) (B : Option Addr) (m : Nat) (w : World) (rb : Row w w.heap.size B (tcells t.cells)) (ht : tabI t = 0) :
    Calls Tryz.prog 15 #[tval t A k B m] w (ItsPost (ofX t) w) := by
  have hl4 := tabI_cells ht
  have HX := hid (show ofX t = ofL (valsL t) (keysL t) from if_pos ht)
  have HKC := hid (fun w1 (hb : Below w.heap.size w w1) => Rkeys_any t A k B m w1 (rb.step hb) (by omega))
  have HVC := hid (fun key col w1 (hb : Below w.heap.size w w1) => Rvalues_any t key col A k B m w1 (rb.step hb) (by omega))
  have HVL := hid (valsL_len t)
  have HKL := hid (keysL_len t)
  clear rb ht
  obtain ⟨X, hX⟩ : ∃ X, X = ofX t := ⟨_, rfl⟩
  obtain ⟨V, hV⟩ : ∃ V, V = valsL t := ⟨_, rfl⟩
  obtain ⟨K, hK⟩ : ∃ K, K = keysL t := ⟨_, rfl⟩
  rw [← hX]
  rw [← hX, ← hV, ← hK] at HX
  rw [← hK] at HKC HKL
  rw [← hV] at HVC HVL
  clear hX hV hK
  obtain ⟨⟨c0, c1, c2, c3, cl⟩, l⟩ := t
  simp only [tval] at HKC HVC ⊢
  simp only at hl4 HVL HKL
  obtain ⟨W, hW⟩ : ∃ W : World, W = w.alloc (.cells #[.int .i64 c0, .int .i64 c1, .int .i64 c2, .int .i64 c3, .slice A cl.length k, .slice B l.length m] 29) := ⟨_, rfl⟩
  have HBW := hid (show Below w.heap.size w W by rw [hW]; (repeat' (first | (with_reducible exact Below.refl _ _) | (with_reducible assumption) | (with_reducible refine below_drewN ?_ _) | (with_reducible refine Below.drew ?_) | (with_reducible refine Below.alloc ?_ ?_ _) | (with_reducible refine Below.setCell ?_ ?_ _) | (refine Below.trans ?_ (Below.mono (by assumption) ?_)) | go_size)))
  have HXA := hid (show Blk W w.heap.size #[.int .i64 c0, .int .i64 c1, .int .i64 c2, .int .i64 c3, .slice A cl.length k, .slice B l.length m] 29 by rw [hW]; exact Blk.new _ _ _)
  have hkl := HKL.out
  go_enter Tryz.func15, Tryz.ntmps15
  go_upto_region 2 with fail
  rw [← hW]
  clear hW
  obtain ⟨cHXA, fHXA, sHXA, nHXA⟩ := HXA.out.all
  try simp only [cbox] at cHXA
  go_wp2_with fail
  -- STOP-e
  refine (HKC.out _ HBW.out).mono ?_
  rintro e w2 ⟨v2, rfl, hown2, hb2⟩
  obtain ⟨A2, k2, rfl⟩ := own_formS hown2
  clear cHXA fHXA sHXA nHXA
  replace HXA := hid (HXA.out.step hb2)
  replace HBW := hid (Below.step' HBW.out hb2)
  have HRK := hid (Row.of_ownS hown2)
  clear hb2 hown2
  go_wp2_with fail
  -- STOP-f
  go_loopw [3, 12] (fun s3 s12 wr => ∃ (i : Nat) (S : List IR), i ≤ K.length ∧ s12 = .int .i64 i ∧ S.length = i ∧ Hid (its S = ofL V (K.take i)) ∧ Hid (wr.ownsRow w2.heap.size 67 2 s3 S.length (rcells S)) ∧ Hid (RowsNew wr w2.heap.size s3 S) ∧ Hid (Below w2.heap.size w2 wr)) (fun _ s12 _ => K.length - (intOf s12).toNat)
  case atStart => exact ⟨0, [], by omega, rfl, rfl, hid (by simp [its, ofL]), hid (World.ownsRow_nil _ _ _ _), hid (RowsNew.nil _ _ _), hid (Below.refl _ _)⟩
  case round =>
    obtain ⟨i, S, hi, rfl, hSi, HIS, HOWN, HNEW, HB⟩ := hrel
    obtain ⟨wo, rfl⟩ : ∃ wx : World, wx = wr := ⟨_, rfl⟩
    obtain ⟨A6, c6, rfl⟩ := own_formS HOWN.out
    have hs2 := HB.out.size
    have hlS : S.length ≤ 400 := by omega
    have HSI := hid hSi
    clear hSi
    by_cases hlt : i < K.length
    · have t1 : ((i : Int) < (K.length : Int)) = True := eq_true (by omega)
      obtain ⟨b, off, rfl, hb, h0⟩ := (HRK.out.step HB.out).int hlt
      have HST := hid (show ofL V (K.take (i + 1)) = ofL V (K.take i) ++ [(ofRowN V K[i] 3, 1)] by rw [List.take_succ_eq_append_getElem hlt, ofL, List.map_append]; rfl)
      generalize K[i] = key at *
      have HXO := hid (HXA.out.step HB.out)
      have HBO := hid (Below.step' HBW.out HB.out)
      obtain ⟨W3, hW3⟩ : ∃ W3 : World, W3 = wo.alloc (.cells (ofBlk V key 0) 3) := ⟨_, rfl⟩
      have HB3 := hid (show Below wo.heap.size wo W3 by rw [hW3]; exact alloc_below (Below.refl _ _) _)
      have HO3 := hid (show Blk W3 wo.heap.size (ofBlk V key 0) 3 by rw [hW3]; exact Blk.new _ _ _)
      have hz0 : ofBlk V key 0 = #[.int .i64 key, .int .i64 0, .int .i64 0, .int .i64 0] := by simp [ofBlk, ofv]
      rw [hz0] at hW3
      clear hz0
      go_wp2_with fail
      -- STOP-g
      rw [← hW3]
      clear hW3 h0 hb
      go_loopw [7] (fun s7 wr => ∃ j : Nat, j ≤ 3 ∧ s7 = .int .i64 j ∧ Hid (Blk wr wo.heap.size (ofBlk V key j) 3) ∧ Hid (Below wo.heap.size wo wr)) (fun s7 _ => 3 - (intOf s7).toNat)
      case atStart => exact ⟨0, by omega, rfl, HO3, HB3⟩
      case round =>
        obtain ⟨j, hj, rfl, HR, HBI⟩ := hrel
        obtain ⟨wi, rfl⟩ : ∃ wx : World, wx = wr := ⟨_, rfl⟩
        have hsi := HBI.out.size
        by_cases hl3 : j < 3
        · have t3 : ((j : Int) < 3) = True := eq_true (by omega)
          have HXI := hid (HXO.out.step HBI.out)
          have HBB := hid (Below.step' HBO.out HBI.out)
          have HVJ := hid (HVC.out key (j : Int) wi HBB.out)
          have HRS := hid (ofBlk_set V key hl3)
          have HRK3 := hid (ofBlk_keep V key hl3)
          have HVN := hid (HVL.out key (j : Int))
          obtain ⟨U, hU⟩ : ∃ U, U = V key (j : Int) := ⟨_, rfl⟩
          rw [← hU] at HVJ HRS HVN HRK3
          clear hU
          obtain ⟨cHXI, fHXI, sHXI, nHXI⟩ := HXI.out.all
          try simp only [cbox] at cHXI
          go_wp2_with fail
          -- STOP-h
          refine HVJ.out.mono ?_
          rintro e w4 ⟨v4, rfl, hown4, hb4⟩
          obtain ⟨A4, k4, rfl⟩ := own_formS hown4
          have HB4 := hid (HBI.out.trans (hb4.mono hsi))
          have HRV := hid (Row.of_ownS hown4)
          have HR4 := hid (HR.out.step hb4)
          clear cHXI fHXI sHXI nHXI
          clear hb4 hown4
          by_cases h0 : 0 < U.length
          · have t4 : ((0 : Int) < (U.length : Int)) = True := eq_true (by omega)
            have hu4 := HVN.out
            obtain ⟨b4, o4, rfl, hbb4, hv4⟩ := HRV.out.int (k := U.length - 1) (by omega)
            have HLI := hid (show lastI U = U[U.length - 1] by rw [lastI, dif_pos h0])
            have e4 : ((U.length : Int) - 1).toNat = U.length - 1 := by omega
            have w4' : IntKind.i64.wrap ((U.length : Int) - 1) = (U.length : Int) - 1 := IntWalk.i64_in _ (by omega)
            have g4 : (0 : Int) ≤ (U.length : Int) - 1 := by omega
            have g5 : (U.length : Int) - 1 < (U.length : Int) := by omega
            have w5' : IntKind.i64.wrap ((j : Int) + 1) = (j : Int) + 1 := IntWalk.i64_in _ (by omega)
            have g6 : (0 : Int) ≤ (j : Int) + 1 := by omega
            have g7 : (j : Int) + 1 < 4 := by omega
            have e5 : ((j : Int) + 1).toNat = j + 1 := by omega
            obtain ⟨jv, hjv⟩ : ∃ v0, (ofBlk V key j)[j + 1]? = some v0 := ⟨_, Array.getElem?_eq_getElem (by show j + 1 < 4; omega)⟩
            have hcj : w4.cell? ⟨wo.heap.size, j + 1, none⟩ = some jv := by rw [HR4.out.cells.1, hjv]
            have hfj : w4.frozen? ⟨wo.heap.size, j + 1, none⟩ = false := HR4.out.cells.2 _
            generalize U[U.length - 1] = uv at *
            go_wp2_with fail
            -- STOP-i
            go_roundw
            case rel =>
              refine ⟨j + 1, by omega, by go_num, hid ?_, hid (HB4.out.setCell (Nat.le_refl _) _)⟩
              rw [← HRS.out, HLI.out]
              exact HR4.out.set (j + 1) _
            case measure => simp [intOf]; omega
          · have t4 : ((0 : Int) < (U.length : Int)) = False := eq_false (by omega)
            have HLI := hid (show lastI U = 0 by rw [lastI, dif_neg h0])
            go_wp2_with fail
            -- STOP-j
            go_roundw
            case rel => exact ⟨j + 1, by omega, by go_num, hid (by rw [HRK3.out HLI.out]; exact HR4.out), HB4⟩
            case measure => simp [intOf]; omega
        · have hj3 : j = 3 := by omega
          have t3 : ((j : Int) < 3) = False := eq_false (by omega)
          have hrb := HR.out
          rw [hj3] at hrb
          have HRO := hid (blk_rowOwn hrb (ofBlk_all V key) (ofRowN_len V key 3))
          have HLR := hid (ofRowN_len V key 3)
          obtain ⟨R, hR⟩ : ∃ R, R = ofRowN V key 3 := ⟨_, rfl⟩
          rw [← hR] at HRO HST HLR
          rw [show (3 : Nat) + 1 = 4 from rfl] at HLR
          clear hR hrb hj3
          have hbl := HR.out.lt
          have HOW8 := hid (own_laterS HOWN.out HBI.out)
          have HNEW8 := hid (HNEW.out.step HBI.out)
          have hone : ∀ u ∈ ([.slice (some ⟨wo.heap.size, 0, none⟩) 4 4, .int .i64 1] : List Value), u.oneCell' = true := by
            intro u hu
            simp only [List.mem_cons, List.not_mem_nil, or_false] at hu
            rcases hu with rfl | rfl <;> rfl
          have HXC := hid (show (⟨R, some ⟨wo.heap.size, 0, none⟩, 4, 1⟩ : IR).cells = [.slice (some ⟨wo.heap.size, 0, none⟩) 4 4, .int .i64 1] by simp only [IR.cells, HLR.out])
          go_wp2_with (at_builtin; refine wpList_append_row elem_item rfl _ _ rfl w2.heap.size _ _ _ rfl (HOW8.out.alloc _) (some ⟨wi.heap.size, 0, none⟩) 1 1 (wi.heap.size + 1) [.slice (some ⟨wo.heap.size, 0, none⟩) 4 4, .int .i64 1] rfl rfl (Row.new' _ _ _ rfl rfl (Nat.lt_succ_self _)) hone ?_ ?_ ?_ ?_; rotate_right; intro v7 w7 hown7 hg7 hif7; rotate_left; (simp only [maxLen]; omega); (omega); (have := HB.out.size; simp; omega))
          -- STOP-k
          have HNEW9 := hid ((HNEW8.out.step (alloc_below (Below.refl _ _) (.cells #[.slice (some ⟨wo.heap.size, 0, none⟩) 4 4, .int .i64 1] 67))).grown hg7 hif7)
          have HROW9 := hid (HRO.out.step (alloc_below (Below.refl _ _) (.cells #[.slice (some ⟨wo.heap.size, 0, none⟩) 4 4, .int .i64 1] 67)))
          have hA8 : ∀ b off q, (some ⟨wo.heap.size, 0, none⟩ : Option Addr) = some ⟨b, off, q⟩ → some b ≠ (Value.slice A6 S.length c6).ownBlock := fun b off q e e2 => by
            injection e with e
            injection e with e
            have q2 := (HOWN.out.lt b e2.symm).2
            omega
          have HA8 := hid hA8
          have HIF := hid hif7
          have HG7 := hid hg7
          have HOWN9 := hid hown7
          clear hown7 hg7 hif7 hA8 hone
          go_roundw
          case rel =>
            have HB11 := ((HB.out.trans (HBI.out.mono hs2)).alloc (by omega) (.cells #[.slice (some ⟨wo.heap.size, 0, none⟩) 4 4, .int .i64 1] 67)).grown HG7.out (by simp; omega) (fun g e => (HOW8.out.lt g e).1)
            have hr9 := (HROW9.out.grown_ne (Nat.le_refl _) HG7.out HA8.out).more HG7.out.size
            refine ⟨i + 1, S ++ [⟨R, some ⟨wo.heap.size, 0, none⟩, 4, 1⟩], by omega, by go_num, by have := HSI.out; simp; omega, hid ?_, hid ?_, hid ?_, hid HB11⟩
            · rw [HST.out, ← HIS.out]
              show (S ++ [(⟨R, some ⟨wo.heap.size, 0, none⟩, 4, 1⟩ : IR)]).map IR.it = _
              rw [List.map_append]; rfl
            · rw [rcells_snoc, List.length_append, HXC.out]
              exact HOWN9.out
            · refine RowsNew.snoc HNEW9.out (x := (⟨R, some ⟨wo.heap.size, 0, none⟩, 4, 1⟩ : IR)) hr9 (fun b off q e => by injection e with e; injection e with e; omega) (fun b off q e => ?_) (by have := HLR.out; simp only; omega)
              have hlt9 : b < wi.heap.size := by injection e with e; injection e with e; omega
              have hsz7 := HG7.out.size
              simp at hsz7
              refine ⟨?_, by omega⟩
              rcases HIF.out with h | h
              · rw [h]; exact HA8.out b off q e
              · rw [h]; intro e2; injection e2 with e2; simp at e2; omega
          case measure => simp [intOf]; omega
    · have t1 : ((i : Int) < (K.length : Int)) = False := eq_false (by omega)
      have hik : i = K.length := by omega
      subst hik
      have hKT : K.take K.length = K := List.take_length
      rw [hKT] at HIS
      have HIT := hid hKT
      clear hKT
      go_wp2_with fail
      go_ret
      exact ⟨A6, c6, S, rfl, by rw [HIS.out, HX.out], own_baseS HOWN.out HBW.out.size, fun x hx => ⟨(HNEW.out x hx).1, newAt_le (HNEW.out x hx).2.1 HBW.out.size, (HNEW.out x hx).2.2⟩, Below.step' HBW.out HB.out⟩
end Go.Proofs.YtldlmkfigjicgaaGreatDoor
