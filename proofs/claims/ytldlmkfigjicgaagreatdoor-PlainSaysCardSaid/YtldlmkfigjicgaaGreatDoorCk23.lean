/- PnA, PnB, PnC, PnG, PnH, PnI -/
import Derived.Test.YtldlmkfigjicgaaGreatDoorCk22
import Derived.Maps.OwnSet
/- plain.Holds, where, neg, pick. -/
namespace Go.Proofs.YtldlmkfigjicgaaGreatDoor
set_option linter.unusedVariables false
set_option linter.unusedSimpArgs false
open Go.ChangeShapes Go.WideShapes Go.ChangeAt Go.RowKit

theorem holds_any (op n v : Int) (w : World) :
    Calls Tryz.prog 130 #[.int .i64 op, .int .i64 n, .int .i64 v] w fun e w' => e = .returned (.bool (stHolds op n v)) ∧ w = w' := by
  obtain ⟨R, hR⟩ : ∃ R, R = stHolds op n v := ⟨_, rfl⟩
  rw [← hR]
  have HR := hid hR
  clear hR
  by_cases h1 : op = 1
  · have e1 : (op == 1) = true := by simp [h1]
    have HQ := hid h1
    clear h1
    go_enter Tryz.func130, Tryz.ntmps130
    go_wp2
    go_ret
    exact ⟨ret_bool (by rw [HR.out]; unfold stHolds; rw [if_pos HQ.out]), rfl⟩
  · have e1 : (op == 1) = false := by simp [h1]
    by_cases h2 : op = 2
    · have e2 : (op == 2) = true := by simp [h2]
      have HQ := hid h2
      have HP := hid h1
      clear h1 h2
      go_enter Tryz.func130, Tryz.ntmps130
      go_wp2
      go_ret
      exact ⟨ret_bool (by rw [HR.out]; unfold stHolds; rw [if_neg HP.out, if_pos HQ.out]; rfl), rfl⟩
    · have e2 : (op == 2) = false := by simp [h2]
      have HQ := hid h2
      have HP := hid h1
      clear h1 h2
      go_enter Tryz.func130, Tryz.ntmps130
      go_wp2
      go_ret
      exact ⟨ret_bool (by rw [HR.out]; unfold stHolds; rw [if_neg HP.out, if_neg HQ.out]), rfl⟩

/-- Items, wherever their rows lie. -/
def LiPost (S : List It) (w : World) (e : Ending) (w' : World) : Prop :=
  ∃ (A : Option Addr) (k : Nat) (M : List IR), e = .returned (.slice A M.length k) ∧ its M = S ∧ RowI w' w'.heap.size A M ∧ Below w.heap.size w w'
theorem rcells_app (M N : List IR) : rcells (M ++ N) = rcells M ++ rcells N := by rw [rcells, List.flatMap_append]

def whereM (s : St) (M : List IR) : List IR := M.filter (fun x => stHolds s.op (colD x.row s.col) s.val)
theorem whereM_its (s : St) (M : List IR) : its (whereM s M) = whereL s (its M) := by
  unfold whereM whereL its
  rw [List.filter_map]; rfl

set_option maxHeartbeats 1000000 in
set_option maxRecDepth 100000 in
theorem where_any (x : SR) (M : List IR) (A : Option Addr) (c : Nat) (w : World) (hr : RowI w w.heap.size A M) (hl : M.length ≤ 1048576) (hc : 0 ≤ x.st.col ∧ ∀ y ∈ M, x.st.col < (y.row.length : Int)) :
    Calls Tryz.prog 104 #[.agg x.cells.toArray, .slice A M.length c] w (LiPost (whereL x.st (its M)) w) := by
  obtain ⟨⟨sk, sa, sb, sc, so, sv, sl⟩, sA, sK⟩ := x
  simp only at hc
  obtain ⟨hc0, hc1⟩ := hc
  obtain ⟨j, rfl⟩ : ∃ j : Nat, sc = (j : Int) := ⟨sc.toNat, by omega⟩
  have HR := hid hr
  have HC := hid hc1
  obtain ⟨s, hs⟩ : ∃ s : St, s = ⟨sk, sa, sb, (j : Int), so, sv, sl⟩ := ⟨_, rfl⟩
  have HF := hid (fun i (hi : i < M.length) => show whereM s (M.take (i + 1)) = whereM s (M.take i) ++ (if stHolds so (colD M[i].row j) sv = true then [M[i]] else []) by
    unfold whereM
    rw [List.take_succ_eq_append_getElem hi, List.filter_append, List.filter_cons, List.filter_nil, hs])
  have HLe := hid (fun i => show (whereM s (M.take i)).length ≤ i from Nat.le_trans (List.length_filter_le _ _) (List.length_take_le _ _))
  have HIT := hid (whereM_its s M)
  have HSUB := hid (fun x (hx : x ∈ whereM s M) => show x ∈ M from (List.mem_filter.1 hx).1)
  have hw0 : whereM s (M.take 0) = [] := rfl
  have HW0 := hid hw0
  simp only [SR.cells]
  rw [← hs]
  clear hr hc1 hs hw0
  obtain ⟨W1, hW1⟩ : ∃ W1 : World, W1 = w.alloc (.cells #[.int .i64 sk, .int .i64 sa, .int .i64 sb, .int .i64 (j : Int), .int .i64 so, .int .i64 sv, .slice sA sl.length sK] 89) := ⟨_, rfl⟩
  have HX := hid (show Blk W1 w.heap.size #[.int .i64 sk, .int .i64 sa, .int .i64 sb, .int .i64 (j : Int), .int .i64 so, .int .i64 sv, .slice sA sl.length sK] 89 by rw [hW1]; exact Blk.new _ _ _)
  have HB1 := hid (show Below w.heap.size w W1 by rw [hW1]; (repeat' (first | (with_reducible exact Below.refl _ _) | (with_reducible assumption) | (with_reducible refine below_drewN ?_ _) | (with_reducible refine Below.drew ?_) | (with_reducible refine Below.alloc ?_ ?_ _) | (with_reducible refine Below.setCell ?_ ?_ _) | (refine Below.trans ?_ (Below.mono (by assumption) ?_)) | go_size)))
  have hs1 := HB1.out.size
  go_enter Tryz.func104, Tryz.ntmps104
  go_wp2_with fail
  rw [← hW1]
  clear hW1
  -- STOP-a
  go_loopw [5, 10] (fun s5 s10 wr => ∃ i : Nat, i ≤ M.length ∧ s10 = .int .i64 i ∧ Hid (wr.ownsRow W1.heap.size 67 2 s5 (whereM s (M.take i)).length (rcells (whereM s (M.take i)))) ∧ Hid (Below W1.heap.size W1 wr)) (fun _ s10 _ => M.length - (intOf s10).toNat)
  case atStart => exact ⟨0, by omega, rfl, hid (by rw [HW0.out]; exact World.ownsRow_nil _ _ _ _), hid (Below.refl _ _)⟩
  case round =>
    obtain ⟨i, hi, rfl, HOWN, HB⟩ := hrel
    obtain ⟨A5, c5, rfl⟩ := own_formS HOWN.out
    have hsw := HB.out.size
    have hOl := HLe.out i
    have HBW := hid (Below.step' HB1.out HB.out)
    by_cases hlt : i < M.length
    · obtain ⟨b, off, rfl, hb, e0, e1⟩ := (HR.out.1.step HBW.out).it hlt
      obtain ⟨xl, xll⟩ := (HR.out.2.step HBW.out) M[i] (List.getElem_mem hlt)
      have hcx := HC.out M[i] (List.getElem_mem hlt)
      have HFI := hid (HF.out i hlt)
      generalize M[i] = x at *
      obtain ⟨xr, xA, xk, xn⟩ := x
      simp only at e0 e1 xl xll hcx HFI
      have hj : j < xr.length := by omega
      obtain ⟨b2, o2, rfl, hb2, hv2⟩ := xl.int' hj
      have hcd : colD xr j = xr[j] := by unfold colD; rw [Int.toNat_natCast, List.getD_eq_getElem?_getD, List.getElem?_eq_getElem hj]; rfl
      rw [hcd] at HFI
      generalize xr[j] = u at *
      have HH := hid (fun w1 => holds_any so u sv w1)
      obtain ⟨hb0, hhb⟩ : ∃ q, q = stHolds so u sv := ⟨_, rfl⟩
      rw [← hhb] at HH HFI
      have hneb : (b = wr.heap.size) = False := by simp; omega
      have hneb2 : (b2 = wr.heap.size) = False := by simp; omega
      have hjl : (j : Int) < (xr.length : Int) := by omega
      obtain ⟨O, hO⟩ : ∃ O, O = whereM s (M.take i) := ⟨_, rfl⟩
      rw [← hO] at HOWN HFI hOl ⊢
      clear hcd hhb hO xl hcx
      obtain ⟨wo, rfl⟩ : ∃ wx : World, wx = wr := ⟨_, rfl⟩
      have HXO := hid (HX.out.step HB.out)
      obtain ⟨W2, hW2⟩ : ∃ W2 : World, W2 = wo.alloc (.cells #[.slice (some ⟨b2, o2, none⟩) xr.length xk, .int .i64 xn] 67) := ⟨_, rfl⟩
      have HX2 := hid (show Blk W2 wo.heap.size #[.slice (some ⟨b2, o2, none⟩) xr.length xk, .int .i64 xn] 67 by rw [hW2]; exact Blk.new _ _ _)
      have HBO := hid (show Below wo.heap.size wo W2 by rw [hW2]; exact alloc_below (Below.refl _ _) _)
      have HO2 := hid (show W2.ownsRow W1.heap.size 67 2 (.slice A5 O.length c5) O.length (rcells O) by rw [hW2]; exact HOWN.out.alloc _)
      replace HXO := hid (HXO.out.step HBO.out)
      have hv3 := ((bcell HBO.out).1 b2 _ hb2).trans hv2
      have hb3 : b2 < W2.heap.size := Nat.lt_of_lt_of_le hb2 HBO.out.size
      go_upto_region 5 with fail
      -- STOP-b
      rw [← hW2]
      clear hW2 hv2 e0 e1
      obtain ⟨cHXO, fHXO, sHXO, nHXO⟩ := HXO.out.all
      try simp only [cbox] at cHXO
      obtain ⟨cHX2, fHX2, sHX2, nHX2⟩ := HX2.out.all
      try simp only [cbox] at cHX2
      cases hb0
      · go_wp2_with fail
        refine wp_region_quiet_lit (by kernel_rfl) (by kernel_rfl) ?_
        repeat (any_goals ((with_reducible refine wpQuiet_step (fun K hK => ?_)); go_simp; first | (with_reducible refine hK _ ?_; clear hK K) | ((with_reducible apply Exists.intro); (with_reducible refine ⟨fun _ => ?_, hK _ ?_⟩); (go_at_call 130; exact (HH.out _).mono fun _ _ ⟨he, hb⟩ => ⟨he, _, hb.symm⟩); clear hK K) | ((with_reducible refine (if_neg ?_).mpr (hK _ ?_)); (decide); clear hK K) | (split <;> (with_reducible refine hK _ ?_; clear hK K))))
        all_goals ((with_reducible refine wpQuiet_nil ?_); intro _ hw'; obtain ⟨nq, hw''⟩ := hw'; subst hw'')
        go_wp2_with fail
        go_roundw
        case rel =>
          refine ⟨i + 1, by omega, by go_num, hid ?_, hid (below_drewN (HB.out.trans (HBO.out.mono hsw)) _)⟩
          rw [HFI.out, if_neg (by simp), List.append_nil]
          exact HO2.out
        case measure => simp [intOf]; omega
      · go_wp2_with fail
        refine wp_region_quiet_lit (by kernel_rfl) (by kernel_rfl) ?_
        repeat (any_goals ((with_reducible refine wpQuiet_step (fun K hK => ?_)); go_simp; first | (with_reducible refine hK _ ?_; clear hK K) | ((with_reducible apply Exists.intro); (with_reducible refine ⟨fun _ => ?_, hK _ ?_⟩); (go_at_call 130; exact (HH.out _).mono fun _ _ ⟨he, hb⟩ => ⟨he, _, hb.symm⟩); clear hK K) | ((with_reducible refine (if_neg ?_).mpr (hK _ ?_)); (decide); clear hK K) | (split <;> (with_reducible refine hK _ ?_; clear hK K))))
        all_goals ((with_reducible refine wpQuiet_nil ?_); intro _ hw'; obtain ⟨nq, hw''⟩ := hw'; subst hw'')
        have hone : ∀ u ∈ ([.slice (some ⟨b2, o2, none⟩) xr.length xk, .int .i64 xn] : List Value), u.oneCell' = true := by
          intro u hu
          simp only [List.mem_cons, List.not_mem_nil, or_false] at hu
          rcases hu with rfl | rfl <;> rfl
        go_wp2_with (at_builtin; refine wpList_append_row elem_item rfl _ _ rfl W1.heap.size _ _ _ rfl ((show (W2.drewN nq).ownsRow W1.heap.size 67 2 (.slice A5 O.length c5) O.length (rcells O) from HO2.out).alloc _) (some ⟨W2.heap.size, 0, none⟩) 1 1 (W2.heap.size + 1) [.slice (some ⟨b2, o2, none⟩) xr.length xk, .int .i64 xn] rfl rfl (by exact Row.new' (W2.drewN nq) _ _ rfl rfl (Nat.lt_succ_self _)) hone ?_ ?_ ?_ ?_; rotate_right; intro v7 w7 hown7 hg7 hif7; rotate_left; (simp only [maxLen]; omega); (omega); (have := HBO.out.size; simp; omega))
        -- STOP-c
        have HOW7 := hid hown7
        have HG7 := hid hg7
        clear hown7 hg7 hif7 hone
        go_roundw
        case rel =>
          refine ⟨i + 1, by omega, by go_num, hid ?_, hid (Below.grown (alloc_below (below_drewN (HB.out.trans (HBO.out.mono hsw)) _) _) HG7.out (by have := HBO.out.size; simp; omega) (fun g e => (HO2.out.lt g e).1))⟩
          rw [HFI.out, if_pos (by first | trivial | rfl), rcells_app, List.length_append]
          simpa using HOW7.out
        case measure => simp [intOf]; omega
    · have hik : i = M.length := by omega
      subst hik
      rw [List.take_length] at HOWN ⊢
      go_wp2_with fail
      go_ret
      refine ⟨A5, c5, whereM s M, rfl, HIT.out, ⟨Row.of_ownS HOWN.out, (HR.out.2.step HBW.out).sub HSUB.out⟩, HBW.out⟩
end Go.Proofs.YtldlmkfigjicgaaGreatDoor
/- plain.neg, pick. -/
namespace Go.Proofs.YtldlmkfigjicgaaGreatDoor
set_option linter.unusedVariables false
set_option linter.unusedSimpArgs false
open Go.ChangeShapes Go.WideShapes Go.ChangeAt Go.RowKit

def negM (M : List IR) : List IR := M.map (fun x => ⟨x.row, x.A, x.k, -x.n⟩)
theorem negM_its (M : List IR) : its (negM M) = negL (its M) := by
  unfold negM negL its
  rw [List.map_map, List.map_map]; rfl
theorem negM_rows {w : World} {B : Nat} {M : List IR} (h : RowsAt w B M) : RowsAt w B (negM M) := fun x hx => by
  obtain ⟨y, hy, rfl⟩ := List.mem_map.1 hx
  exact h y hy

set_option maxHeartbeats 1000000 in
set_option maxRecDepth 100000 in
theorem pneg_any (M : List IR) (A : Option Addr) (c : Nat) (w : World) (hr : RowI w w.heap.size A M) (hl : M.length ≤ 1048576) (hn : ∀ y ∈ M, -2097152 ≤ y.n ∧ y.n ≤ 2097152) :
    Calls Tryz.prog 106 #[.slice A M.length c] w fun e w' => ∃ (A' : Option Addr) (k : Nat), e = .returned (.slice A' (negM M).length k) ∧ Row w' w'.heap.size A' (rcells (negM M)) ∧ Below w.heap.size w w' := by
  have HR := hid hr
  have HN := hid hn
  have HF := hid (fun i (hi : i < M.length) => show negM (M.take (i + 1)) = negM (M.take i) ++ [⟨M[i].row, M[i].A, M[i].k, -M[i].n⟩] by
    unfold negM
    rw [List.take_succ_eq_append_getElem hi, List.map_append]; rfl)
  have HLe := hid (fun i (hi : i ≤ M.length) => show (negM (M.take i)).length = i by unfold negM; rw [List.length_map, List.length_take]; omega)
  have HIT := hid (negM_its M)
  have hw0 : negM (M.take 0) = [] := rfl
  have HW0 := hid hw0
  clear hr hn hw0
  go_enter Tryz.func106, Tryz.ntmps106
  go_wp2_with fail
  go_loopw [3, 8] (fun s3 s8 wr => ∃ i : Nat, i ≤ M.length ∧ s8 = .int .i64 i ∧ Hid (wr.ownsRow w.heap.size 67 2 s3 (negM (M.take i)).length (rcells (negM (M.take i)))) ∧ Hid (Below w.heap.size w wr)) (fun _ s8 _ => M.length - (intOf s8).toNat)
  case atStart => exact ⟨0, by omega, rfl, hid (by rw [HW0.out]; exact World.ownsRow_nil _ _ _ _), hid (Below.refl _ _)⟩
  case round =>
    obtain ⟨i, hi, rfl, HOWN, HB⟩ := hrel
    obtain ⟨A5, c5, rfl⟩ := own_formS HOWN.out
    have hsw := HB.out.size
    have hOl := HLe.out i hi
    by_cases hlt : i < M.length
    · obtain ⟨b, off, rfl, hb, e0, e1⟩ := (HR.out.1.step HB.out).it hlt
      have hnx := HN.out M[i] (List.getElem_mem hlt)
      have HFI := hid (HF.out i hlt)
      generalize M[i] = x at *
      obtain ⟨xr, xA, xk, xn⟩ := x
      simp only at e0 e1 hnx HFI
      have hwn : IntKind.i64.wrap (-xn) = -xn := IntWalk.i64_in _ (by omega)
      have hneb : (b = wr.heap.size) = False := by simp; omega
      obtain ⟨O, hO⟩ : ∃ O, O = negM (M.take i) := ⟨_, rfl⟩
      rw [← hO] at HOWN HFI hOl ⊢
      have HOL := hid hOl
      have hOle : O.length ≤ 1048576 := by omega
      clear hO hOl
      have hone : ∀ u ∈ ([.slice xA xr.length xk, .int .i64 (-xn)] : List Value), u.oneCell' = true := by
        intro u hu
        simp only [List.mem_cons, List.not_mem_nil, or_false] at hu
        rcases hu with rfl | rfl <;> rfl
      go_wp2_with (at_builtin; refine wpList_append_row elem_item rfl _ _ rfl w.heap.size _ _ _ rfl ((HOWN.out.alloc _).alloc _) (some ⟨wr.heap.size + 1, 0, none⟩) 1 1 (wr.heap.size + 1 + 1) [.slice xA xr.length xk, .int .i64 (-xn)] rfl rfl (by exact Row.new' (wr.alloc _) _ _ (by simp) rfl (Nat.lt_succ_self _)) hone ?_ ?_ ?_ ?_; rotate_right; intro v7 w7 hown7 hg7 hif7; rotate_left; (simp only [maxLen]; omega); (omega); (simp; omega))
      -- STOP-c
      have HOW7 := hid hown7
      have HG7 := hid hg7
      clear hown7 hg7 hif7 hone
      go_roundw
      case rel =>
        refine ⟨i + 1, by omega, by go_num, hid ?_, hid (Below.grown (alloc_below (alloc_below HB.out _) _) HG7.out (by simp; omega) (fun g e => (HOWN.out.lt g e).1))⟩
        rw [HFI.out, rcells_app, List.length_append]
        simpa using HOW7.out
      case measure => simp [intOf]; omega
    · have hik : i = M.length := by omega
      subst hik
      rw [List.take_length] at HOWN ⊢
      clear hOl
      go_wp2_with fail
      go_ret
      exact ⟨A5, c5, rfl, Row.of_ownS HOWN.out, HB.out⟩

def pickN (l : List Int) (r : List Int) (j : Nat) : List Int := (l.take j).map (fun i => colD r i)
theorem pickN_succ (l r : List Int) (j : Nat) (h : j < l.length) : pickN l r (j + 1) = pickN l r j ++ [colD r l[j]] := by
  unfold pickN
  rw [List.take_succ_eq_append_getElem h, List.map_append]; rfl
theorem pickN_len (l r : List Int) (j : Nat) (h : j ≤ l.length) : (pickN l r j).length = j := by
  unfold pickN
  rw [List.length_map, List.length_take]; omega

set_option maxHeartbeats 1000000 in
set_option maxRecDepth 100000 in
theorem pick_any (x : SR) (M : List IR) (A : Option Addr) (c : Nat) (w : World) (hr : RowI w w.heap.size A M) (hl : M.length ≤ 1048576) (hx : Row w w.heap.size x.A (icells' x.st.list)) (hxl : x.st.list.length ≤ 8) (hc : ∀ n ∈ x.st.list, 0 ≤ n ∧ ∀ y ∈ M, n < (y.row.length : Int)) :
    Calls Tryz.prog 105 #[.agg x.cells.toArray, .slice A M.length c] w (LiPost (pickL x.st (its M)) w) := by
  obtain ⟨⟨sk, sa, sb, sc, so, sv, sl⟩, sA, sK⟩ := x
  simp only at hc hx hxl
  have HR := hid hr
  have HC := hid hc
  have HSL := hid hx
  have HP := hid (show pickL ⟨sk, sa, sb, sc, so, sv, sl⟩ (its M) = (its M).map (fun x => (pickN sl x.1 sl.length, x.2)) by
    unfold pickL pickR pickN
    rw [List.take_length])
  simp only [SR.cells]
  obtain ⟨X, hX⟩ : ∃ X, X = pickL ⟨sk, sa, sb, sc, so, sv, sl⟩ (its M) := ⟨_, rfl⟩
  rw [← hX] at HP ⊢
  clear hX hr hc hx
  obtain ⟨i1, hi0, hz0, hz1, hz2⟩ := info_parts info_intQ
  obtain ⟨W1, hW1⟩ : ∃ W1 : World, W1 = w.alloc (.cells #[.int .i64 sk, .int .i64 sa, .int .i64 sb, .int .i64 sc, .int .i64 so, .int .i64 sv, .slice sA sl.length sK] 89) := ⟨_, rfl⟩
  have HX := hid (show Blk W1 w.heap.size #[.int .i64 sk, .int .i64 sa, .int .i64 sb, .int .i64 sc, .int .i64 so, .int .i64 sv, .slice sA sl.length sK] 89 by rw [hW1]; exact Blk.new _ _ _)
  have HB1 := hid (show Below w.heap.size w W1 by rw [hW1]; (repeat' (first | (with_reducible exact Below.refl _ _) | (with_reducible assumption) | (with_reducible refine below_drewN ?_ _) | (with_reducible refine Below.drew ?_) | (with_reducible refine Below.alloc ?_ ?_ _) | (with_reducible refine Below.setCell ?_ ?_ _) | (refine Below.trans ?_ (Below.mono (by assumption) ?_)) | go_size)))
  have hs1 := HB1.out.size
  go_enter Tryz.func105, Tryz.ntmps105
  go_wp2_with fail
  rw [← hW1]
  clear hW1
  go_loopw [5, 13] (fun s5 s13 wr => ∃ (i : Nat) (S : List IR), i ≤ M.length ∧ s13 = .int .i64 i ∧ S.length = i ∧ Hid (its S = (its (M.take i)).map (fun x => (pickN sl x.1 sl.length, x.2))) ∧ Hid (wr.ownsRow W1.heap.size 67 2 s5 S.length (rcells S)) ∧ Hid (RowsNew wr W1.heap.size s5 S) ∧ Hid (Below W1.heap.size W1 wr)) (fun _ s13 _ => M.length - (intOf s13).toNat)
  case atStart => exact ⟨0, [], by omega, rfl, rfl, hid (by simp [its]), hid (World.ownsRow_nil _ _ _ _), hid (RowsNew.nil _ _ _), hid (Below.refl _ _)⟩
  case round =>
    obtain ⟨i, S, hi, rfl, hSi, HIS, HOWN, HNEW, HB⟩ := hrel
    obtain ⟨A5, c5, rfl⟩ := own_formS HOWN.out
    have hsw := HB.out.size
    have HSI := hid hSi
    have hSl : S.length ≤ 1048576 := by omega
    clear hSi
    have HBW := hid (Below.step' HB1.out HB.out)
    by_cases hlt : i < M.length
    · obtain ⟨b, off, rfl, hb, e0, e1⟩ := (HR.out.1.step HBW.out).it hlt
      have HXR := hid (((HR.out.2.step HBW.out) M[i] (List.getElem_mem hlt)).1)
      have HCX := hid (fun n hn => (show 0 ≤ n ∧ n < (M[i].row.length : Int) from ⟨(HC.out n hn).1, (HC.out n hn).2 M[i] (List.getElem_mem hlt)⟩))
      have HST := hid (show (its (M.take (i + 1))).map (fun x => (pickN sl x.1 sl.length, x.2)) = (its (M.take i)).map (fun x => (pickN sl x.1 sl.length, x.2)) ++ [(pickN sl M[i].row sl.length, M[i].n)] by
        rw [List.take_succ_eq_append_getElem hlt, its, List.map_append, List.map_append]; rfl)
      generalize M[i] = x at *
      obtain ⟨xr, xA, xk, xn⟩ := x
      simp only at e0 e1 HXR HCX HST
      have hneb : (b = wr.heap.size) = False := by simp; omega
      obtain ⟨wo, rfl⟩ : ∃ wx : World, wx = wr := ⟨_, rfl⟩
      obtain ⟨W2, hW2⟩ : ∃ W2 : World, W2 = wo.alloc (.cells #[.slice xA xr.length xk, .int .i64 xn] 67) := ⟨_, rfl⟩
      have HX2 := hid (show Blk W2 wo.heap.size #[.slice xA xr.length xk, .int .i64 xn] 67 by rw [hW2]; exact Blk.new _ _ _)
      have HBO := hid (show Below wo.heap.size wo W2 by rw [hW2]; exact alloc_below (Below.refl _ _) _)
      have hs2 := HBO.out.size
      have HXO := hid ((HX.out.step HB.out).step HBO.out)
      go_upto_region 6 with fail
      rw [← hW2]
      clear hW2 e0 e1
      obtain ⟨cHXO, fHXO, sHXO, nHXO⟩ := HXO.out.all
      try simp only [cbox] at cHXO
      go_wp2_with fail
      clear cHXO fHXO sHXO nHXO
      -- STOP-a
      go_loopw [8, 20] (fun s8 s20 wr => ∃ j : Nat, j ≤ sl.length ∧ s20 = .int .i64 j ∧ Hid (wr.ownsRow W2.heap.size 3 1 s8 (pickN sl xr j).length (icells' (pickN sl xr j))) ∧ Hid (Below W2.heap.size W2 wr)) (fun _ s20 _ => sl.length - (intOf s20).toNat)
      case atStart => exact ⟨0, by omega, rfl, hid (by simpa [pickN] using World.ownsRow_nil _ _ _ _), hid (Below.refl _ _)⟩
      case round =>
        obtain ⟨j, hj, rfl, HR8, HBI⟩ := hrel
        obtain ⟨wi, rfl⟩ : ∃ wx : World, wx = wr := ⟨_, rfl⟩
        obtain ⟨A8, c8, rfl⟩ := own_formS HR8.out
        have hsi := HBI.out.size
        have hPl := pickN_len sl xr j hj
        have HX2I := hid (HX2.out.step HBI.out)
        by_cases hjl : j < sl.length
        · have HBT := hid (Below.step' HBW.out (Below.step' HBO.out HBI.out))
          obtain ⟨bs', os', rfl, hbs, hvs⟩ := (HSL.out.step HBT.out).int' hjl
          obtain ⟨n0, n1⟩ := HCX.out sl[j] (List.getElem_mem hjl)
          have HPS := hid (pickN_succ sl xr j hjl)
          generalize sl[j] = n at *
          obtain ⟨jn, rfl⟩ : ∃ jn : Nat, n = (jn : Int) := ⟨n.toNat, by omega⟩
          have hjn : jn < xr.length := by omega
          obtain ⟨bx, ox, rfl, hbx, hvx⟩ := (HXR.out.step (Below.step' HBO.out HBI.out)).int' hjn
          have hcd : colD xr jn = xr[jn] := by unfold colD; rw [Int.toNat_natCast, List.getD_eq_getElem?_getD, List.getElem?_eq_getElem hjn]; rfl
          rw [hcd] at HPS
          generalize xr[jn] = u at *
          have hjl2 : (jn : Int) < (xr.length : Int) := by omega
          obtain ⟨P, hP⟩ : ∃ P, P = pickN sl xr j := ⟨_, rfl⟩
          rw [← hP] at HR8 HPS hPl ⊢
          have HPL := hid hPl
          have hPle : P.length ≤ 8 := by omega
          clear hcd hP hPl n0 n1
          obtain ⟨cHX2I, fHX2I, sHX2I, nHX2I⟩ := HX2I.out.all
          try simp only [cbox] at cHX2I
          go_wp2_with (at_builtin; refine wpList_append_own _ rfl _ _ 30 rfl W2.heap.size 3 i1 _ 1 8 Tryz.underlying30 hi0 hz0 hz1 hz2 rfl (by decide) _ _ _ rfl (HR8.out.alloc _) ⟨wi.heap.size, 0, none⟩ 1 1 (icells' [u]) rfl rfl (news_at _ [.int .i64 u] _ _ rfl) (icellsQ_one _) ?_ ?_ ?_ ?_; rotate_right; intro v6 w6 hown6 hg6 _; rotate_left; (simp only [maxLen]; omega); (omega); (simp; omega))
          -- STOP-b
          have HOW6 := hid hown6
          have HG6 := hid hg6
          clear hown6 hg6
          go_roundw
          case rel =>
            refine ⟨j + 1, by omega, by go_num, hid ?_, hid (Below.grown (alloc_below HBI.out _) HG6.out (by simp; omega) (fun g e => (HR8.out.lt g e).1))⟩
            rw [HPS.out, icellsQ_snoc, List.length_append]
            simpa using HOW6.out
          case measure => simp [intOf]; omega
        · have hje : j = sl.length := by omega
          subst hje
          have HOW8 := hid (own_laterS (HOWN.out) (Below.step' HBO.out HBI.out))
          have HNEW8 := hid (HNEW.out.step (Below.step' HBO.out HBI.out))
          obtain ⟨P, hP⟩ : ∃ P, P = pickN sl xr sl.length := ⟨_, rfl⟩
          rw [← hP] at HR8 HST hPl ⊢
          have HPL := hid hPl
          have hPle : P.length ≤ 8 := by omega
          clear hP hPl
          have hone : ∀ u ∈ ([.slice A8 P.length c8, .int .i64 xn] : List Value), u.oneCell' = true := by
            intro u hu
            simp only [List.mem_cons, List.not_mem_nil, or_false] at hu
            rcases hu with rfl | rfl <;> rfl
          obtain ⟨cHX2I, fHX2I, sHX2I, nHX2I⟩ := HX2I.out.all
          try simp only [cbox] at cHX2I
          go_wp2_with (at_builtin; refine wpList_append_row elem_item rfl _ _ rfl W1.heap.size _ _ _ rfl (HOW8.out.alloc _) (some ⟨wi.heap.size, 0, none⟩) 1 1 (wi.heap.size + 1) [.slice A8 P.length c8, .int .i64 xn] rfl rfl (Row.new' _ _ _ rfl rfl (Nat.lt_succ_self _)) hone ?_ ?_ ?_ ?_; rotate_right; intro v7 w7 hown7 hg7 hif7; rotate_left; (simp only [maxLen]; omega); (omega); (simp; omega))
          -- STOP-c
          clear cHX2I fHX2I sHX2I nHX2I
          have HNEW9 := hid ((HNEW8.out.step (alloc_below (Below.refl _ _) (.cells #[.slice A8 P.length c8, .int .i64 xn] 67))).grown hg7 hif7)
          have HROW9 := hid ((RowOwn.of_own HR8.out rfl).step (alloc_below (Below.refl _ _) (.cells #[.slice A8 P.length c8, .int .i64 xn] 67)))
          have HIN : Hid (∀ b off q, A8 = some ⟨b, off, q⟩ → W2.heap.size ≤ b ∧ b < wi.heap.size) := hid (fun b off q e => HR8.out.lt b (by rw [e]; rfl))
          have hA8 : ∀ b off q, A8 = some ⟨b, off, q⟩ → some b ≠ (Value.slice A5 S.length c5).ownBlock := fun b off q e e2 => by
            have q1 := (HIN.out b off q e).1
            have q2 := (HOWN.out.lt b e2.symm).2
            omega
          have HA8 := hid hA8
          have HIF := hid hif7
          have HG7 := hid hg7
          have HOWN9 := hid hown7
          clear hown7 hg7 hif7 hA8 hone
          go_roundw
          case rel =>
            have hr9 := (HROW9.out.grown_ne (Nat.le_refl _) HG7.out HA8.out).more HG7.out.size
            refine ⟨i + 1, S ++ [⟨P, A8, c8, xn⟩], by omega, by go_num, by have := HSI.out; simp; omega, hid ?_, hid ?_, hid ?_, hid (((HB.out.trans ((Below.step' HBO.out HBI.out).mono hsw)).alloc (by omega) (.cells #[.slice A8 P.length c8, .int .i64 xn] 67)).grown HG7.out (by simp; omega) (fun g e => (HOW8.out.lt g e).1))⟩
            · rw [HST.out, ← HIS.out]
              show (S ++ [(⟨P, A8, c8, xn⟩ : IR)]).map IR.it = _
              rw [List.map_append]; rfl
            · rw [rcells_snoc, List.length_append]
              exact HOWN9.out
            · refine RowsNew.snoc HNEW9.out (x := (⟨P, A8, c8, xn⟩ : IR)) hr9 (fun b off q e => by have := (HIN.out b off q e).1; omega) (fun b off q e => ?_) (by simp only; omega)
              have hlt9 := (HIN.out b off q e).2
              have hsz7 := HG7.out.size
              simp at hsz7
              refine ⟨?_, by omega⟩
              rcases HIF.out with h | h
              · rw [h]; exact HA8.out b off q e
              · rw [h]; intro e2; injection e2 with e2; simp at e2; omega
          case measure => simp [intOf]; omega
    · have hik : i = M.length := by omega
      subst hik
      rw [List.take_length] at HIS
      go_wp2_with fail
      -- STOP-d
      go_ret
      exact ⟨A5, c5, S, rfl, by rw [HIS.out, HP.out], ⟨Row.of_ownS HOWN.out, HNEW.out.rows⟩, HBW.out⟩
end Go.Proofs.YtldlmkfigjicgaaGreatDoor
/- plain.Linear. -/
namespace Go.Proofs.YtldlmkfigjicgaaGreatDoor
set_option linter.unusedVariables false
set_option linter.unusedSimpArgs false
open Go.ChangeShapes Go.WideShapes Go.ChangeAt Go.RowKit

/-- Items, wherever their rows lie, and whether. -/
def LinPost (S : List It) (b : Bool) (w : World) (e : Ending) (w' : World) : Prop :=
  ∃ (A : Option Addr) (k : Nat) (M : List IR), e = .returned (.tuple #[.slice A M.length k, .bool b]) ∧ its M = S ∧ RowI w' w'.heap.size A M ∧ Below w.heap.size w w'
theorem linPost_mk {S : List It} {w w' : World} {A : Option Addr} {k : Nat} {M : List IR} {b : Bool} (h1 : its M = S) (h2 : RowI w' w'.heap.size A M) (h3 : Below w.heap.size w w') : LinPost S b w (.returned (.tuple #[.slice A M.length k, .bool b])) w' := ⟨A, k, M, rfl, h1, h2, h3⟩
theorem linPost_nil {S : List It} {w w' : World} {b : Bool} (h1 : S = []) (h3 : Below w.heap.size w w') : LinPost S b w (.returned (.tuple #[.slice none 0 0, .bool b])) w' := by
  subst h1; exact ⟨none, 0, [], rfl, rfl, RowI.nil, h3⟩
/-- What a step that is linear asks of its lists. -/
def LinOk (s : St) (A B : List It) : Prop :=
  (s.kind = 2 → 0 ≤ s.col ∧ ∀ y ∈ A, s.col < (y.1.length : Int)) ∧ (s.kind = 3 → s.list.length ≤ 8 ∧ ∀ n ∈ s.list, 0 ≤ n ∧ ∀ y ∈ A, n < (y.1.length : Int)) ∧ (s.kind = 6 → ∀ y ∈ B, -2097152 ≤ y.2 ∧ y.2 ≤ 2097152)


set_option maxHeartbeats 1000000 in
set_option maxRecDepth 100000 in
theorem lin_k2 (sa sb sc so sv : Int) (sl : List Int) (sA : Option Addr) (sK : Nat) (M1 M2 : List IR) (A1 A2 : Option Addr) (c1 c2 : Nat) (w : World) (hs : Row w w.heap.size sA (icells' sl)) (h1 : RowI w w.heap.size A1 M1) (l1 : M1.length ≤ 800) (h2 : RowI w w.heap.size A2 M2) (l2 : M2.length ≤ 800) (hok : LinOk ⟨2, sa, sb, sc, so, sv, sl⟩ (its M1) (its M2)) :
    Calls Tryz.prog 84 #[.agg #[.int .i64 2, .int .i64 sa, .int .i64 sb, .int .i64 sc, .int .i64 so, .int .i64 sv, .slice sA sl.length sK], .slice A1 M1.length c1, .slice A2 M2.length c2] w (LinPost (linL ⟨2, sa, sb, sc, so, sv, sl⟩ (its M1) (its M2)) (linB ⟨2, sa, sb, sc, so, sv, sl⟩) w) := by
  obtain ⟨hk2, hk3, hk6⟩ := hok
  rw [show linL ⟨2, sa, sb, sc, so, sv, sl⟩ (its M1) (its M2) = whereL ⟨2, sa, sb, sc, so, sv, sl⟩ (its M1) by unfold linL; simp, show linB ⟨2, sa, sb, sc, so, sv, sl⟩ = true from rfl]
  have HB1 : Hid (Below w.heap.size w (w.alloc (.cells #[.int .i64 2, .int .i64 sa, .int .i64 sb, .int .i64 sc, .int .i64 so, .int .i64 sv, .slice sA sl.length sK] 89))) := hid (alloc_below (Below.refl _ _) _)
  have HC := hid (where_any ⟨⟨2, sa, sb, sc, so, sv, sl⟩, sA, sK⟩ M1 A1 c1 (w.alloc (.cells #[.int .i64 2, .int .i64 sa, .int .i64 sb, .int .i64 sc, .int .i64 so, .int .i64 sv, .slice sA sl.length sK] 89)) (h1.step HB1.out) (by omega) ⟨(hk2 rfl).1, fun y hy => (hk2 rfl).2 y.it (List.mem_map.2 ⟨y, hy, rfl⟩)⟩)
  simp only [SR.cells] at HC
  clear h1 h2 hk2 hk3 hk6 hs
  go_enter Tryz.func84, Tryz.ntmps84
  go_wp2_with fail
  refine HC.out.mono ?_
  rintro e w1 ⟨A3, k3, M3, rfl, hi3, hr3, hb3⟩
  have hB := Below.step' HB1.out hb3
  have HI := hid hi3
  have HR := hid hr3
  have HB := hid hB
  clear hi3 hr3 hb3 hB
  go_wp2_with fail
  go_ret2
  exact linPost_mk HI.out HR.out HB.out
set_option maxHeartbeats 1000000 in
set_option maxRecDepth 100000 in
theorem lin_k3 (sa sb sc so sv : Int) (sl : List Int) (sA : Option Addr) (sK : Nat) (M1 M2 : List IR) (A1 A2 : Option Addr) (c1 c2 : Nat) (w : World) (hs : Row w w.heap.size sA (icells' sl)) (h1 : RowI w w.heap.size A1 M1) (l1 : M1.length ≤ 800) (h2 : RowI w w.heap.size A2 M2) (l2 : M2.length ≤ 800) (hok : LinOk ⟨3, sa, sb, sc, so, sv, sl⟩ (its M1) (its M2)) :
    Calls Tryz.prog 84 #[.agg #[.int .i64 3, .int .i64 sa, .int .i64 sb, .int .i64 sc, .int .i64 so, .int .i64 sv, .slice sA sl.length sK], .slice A1 M1.length c1, .slice A2 M2.length c2] w (LinPost (linL ⟨3, sa, sb, sc, so, sv, sl⟩ (its M1) (its M2)) (linB ⟨3, sa, sb, sc, so, sv, sl⟩) w) := by
  obtain ⟨hk2, hk3, hk6⟩ := hok
  rw [show linL ⟨3, sa, sb, sc, so, sv, sl⟩ (its M1) (its M2) = pickL ⟨3, sa, sb, sc, so, sv, sl⟩ (its M1) by unfold linL; simp, show linB ⟨3, sa, sb, sc, so, sv, sl⟩ = true from rfl]
  have HB1 : Hid (Below w.heap.size w (w.alloc (.cells #[.int .i64 3, .int .i64 sa, .int .i64 sb, .int .i64 sc, .int .i64 so, .int .i64 sv, .slice sA sl.length sK] 89))) := hid (alloc_below (Below.refl _ _) _)
  have HC := hid (pick_any ⟨⟨3, sa, sb, sc, so, sv, sl⟩, sA, sK⟩ M1 A1 c1 (w.alloc (.cells #[.int .i64 3, .int .i64 sa, .int .i64 sb, .int .i64 sc, .int .i64 so, .int .i64 sv, .slice sA sl.length sK] 89)) (h1.step HB1.out) (by omega) (hs.step HB1.out) (hk3 rfl).1 fun n hn => ⟨((hk3 rfl).2 n hn).1, fun y hy => ((hk3 rfl).2 n hn).2 y.it (List.mem_map.2 ⟨y, hy, rfl⟩)⟩)
  simp only [SR.cells] at HC
  clear h1 h2 hk2 hk3 hk6 hs
  go_enter Tryz.func84, Tryz.ntmps84
  go_wp2_with fail
  refine HC.out.mono ?_
  rintro e w1 ⟨A3, k3, M3, rfl, hi3, hr3, hb3⟩
  have hB := Below.step' HB1.out hb3
  have HI := hid hi3
  have HR := hid hr3
  have HB := hid hB
  clear hi3 hr3 hb3 hB
  go_wp2_with fail
  go_ret2
  exact linPost_mk HI.out HR.out HB.out
set_option maxHeartbeats 1000000 in
set_option maxRecDepth 100000 in
theorem lin_k5 (sa sb sc so sv : Int) (sl : List Int) (sA : Option Addr) (sK : Nat) (M1 M2 : List IR) (A1 A2 : Option Addr) (c1 c2 : Nat) (w : World) (hs : Row w w.heap.size sA (icells' sl)) (h1 : RowI w w.heap.size A1 M1) (l1 : M1.length ≤ 800) (h2 : RowI w w.heap.size A2 M2) (l2 : M2.length ≤ 800) (hok : LinOk ⟨5, sa, sb, sc, so, sv, sl⟩ (its M1) (its M2)) :
    Calls Tryz.prog 84 #[.agg #[.int .i64 5, .int .i64 sa, .int .i64 sb, .int .i64 sc, .int .i64 so, .int .i64 sv, .slice sA sl.length sK], .slice A1 M1.length c1, .slice A2 M2.length c2] w (LinPost (linL ⟨5, sa, sb, sc, so, sv, sl⟩ (its M1) (its M2)) (linB ⟨5, sa, sb, sc, so, sv, sl⟩) w) := by
  obtain ⟨hk2, hk3, hk6⟩ := hok
  rw [show linL ⟨5, sa, sb, sc, so, sv, sl⟩ (its M1) (its M2) = its M1 ++ its M2 by unfold linL; simp, show linB ⟨5, sa, sb, sc, so, sv, sl⟩ = true from rfl]
  have HB1 : Hid (Below w.heap.size w (w.alloc (.cells #[.int .i64 5, .int .i64 sa, .int .i64 sb, .int .i64 sc, .int .i64 so, .int .i64 sv, .slice sA sl.length sK] 89))) := hid (alloc_below (Below.refl _ _) _)
  have HCL := hid (cloneIt_any M1 A1 c1 (w.alloc (.cells #[.int .i64 5, .int .i64 sa, .int .i64 sb, .int .i64 sc, .int .i64 so, .int .i64 sv, .slice sA sl.length sK] 89)) (h1.1.step HB1.out) (by omega))
  have HR1 := hid h1
  have HR2 := hid h2
  clear h1 h2 hk2 hk3 hk6 hs
  go_enter Tryz.func84, Tryz.ntmps84
  go_wp2_with fail
  refine HCL.out.mono ?_
  rintro e w1 ⟨v1, rfl, hown1, hb1⟩
  obtain ⟨A3, k3, rfl⟩ := own_formS hown1
  have hB1 := Below.step' HB1.out hb1
  have HO := hid (own_baseS hown1 HB1.out.size)
  have HB := hid hB1
  clear hb1 hB1 hown1
  have HRM := hid ((HR2.out.step HB.out).1)
  have h2l := rcells_len M2
  go_wp2_with (at_builtin; refine wpList_append_row elem_item rfl _ _ rfl w.heap.size _ M1.length (rcells M1) rfl HO.out A2 M2.length c2 w1.heap.size (rcells M2) rfl ?_ HRM.out ?_ ?_ ?_ ?_ ?_; rotate_right; intro v7 w7 hown7 hg7 hif7; rotate_left; (first | exact h2l | exact rcells_one _ | (simp only [maxLen]; omega) | omega | exact HB.out.size); (first | exact h2l | exact rcells_one _ | (simp only [maxLen]; omega) | omega | exact HB.out.size); (first | exact h2l | exact rcells_one _ | (simp only [maxLen]; omega) | omega | exact HB.out.size); (first | exact h2l | exact rcells_one _ | (simp only [maxLen]; omega) | omega | exact HB.out.size); (first | exact h2l | exact rcells_one _ | (simp only [maxLen]; omega) | omega | exact HB.out.size))
  -- STOP-u
  have HOW7 := hid hown7
  have HG7 := hid hg7
  clear hown7 hg7 hif7
  obtain ⟨A7, k7, rfl⟩ := own_formS HOW7.out
  have HB7 := hid (HB.out.grown HG7.out HB.out.size (fun g e => (HO.out.lt g e).1))
  have hlen : M1.length + M2.length = (M1 ++ M2).length := (List.length_append ..).symm
  have HOF := HOW7.out
  rw [← rcells_app, hlen] at HOF
  have HOQ := hid HOF
  clear HOF
  rw [hlen]
  clear hlen
  go_wp2_with fail
  go_ret2
  exact linPost_mk (by rw [its, List.map_append]) ⟨Row.of_ownS HOQ.out, (HR1.out.2.step HB7.out).app (HR2.out.2.step HB7.out)⟩ HB7.out
set_option maxHeartbeats 1000000 in
set_option maxRecDepth 100000 in
theorem lin_k6 (sa sb sc so sv : Int) (sl : List Int) (sA : Option Addr) (sK : Nat) (M1 M2 : List IR) (A1 A2 : Option Addr) (c1 c2 : Nat) (w : World) (hs : Row w w.heap.size sA (icells' sl)) (h1 : RowI w w.heap.size A1 M1) (l1 : M1.length ≤ 800) (h2 : RowI w w.heap.size A2 M2) (l2 : M2.length ≤ 800) (hok : LinOk ⟨6, sa, sb, sc, so, sv, sl⟩ (its M1) (its M2)) :
    Calls Tryz.prog 84 #[.agg #[.int .i64 6, .int .i64 sa, .int .i64 sb, .int .i64 sc, .int .i64 so, .int .i64 sv, .slice sA sl.length sK], .slice A1 M1.length c1, .slice A2 M2.length c2] w (LinPost (linL ⟨6, sa, sb, sc, so, sv, sl⟩ (its M1) (its M2)) (linB ⟨6, sa, sb, sc, so, sv, sl⟩) w) := by
  obtain ⟨hk2, hk3, hk6⟩ := hok
  rw [show linL ⟨6, sa, sb, sc, so, sv, sl⟩ (its M1) (its M2) = its M1 ++ negL (its M2) by unfold linL; simp, show linB ⟨6, sa, sb, sc, so, sv, sl⟩ = true from rfl]
  have HB1 : Hid (Below w.heap.size w (w.alloc (.cells #[.int .i64 6, .int .i64 sa, .int .i64 sb, .int .i64 sc, .int .i64 so, .int .i64 sv, .slice sA sl.length sK] 89))) := hid (alloc_below (Below.refl _ _) _)
  have HCL := hid (cloneIt_any M1 A1 c1 (w.alloc (.cells #[.int .i64 6, .int .i64 sa, .int .i64 sb, .int .i64 sc, .int .i64 so, .int .i64 sv, .slice sA sl.length sK] 89)) (h1.1.step HB1.out) (by omega))
  have HR1 := hid h1
  have HR2 := hid h2
  have HNG := hid (fun w1 (hb : Below w.heap.size w w1) => pneg_any M2 A2 c2 w1 (h2.step hb) (by omega) fun y hy => hk6 rfl y.it (List.mem_map.2 ⟨y, hy, rfl⟩))
  clear h1 h2 hk2 hk3 hk6 hs
  go_enter Tryz.func84, Tryz.ntmps84
  go_wp2_with fail
  refine HCL.out.mono ?_
  rintro e w1 ⟨v1, rfl, hown1, hb1⟩
  obtain ⟨A3, k3, rfl⟩ := own_formS hown1
  have hB1 := Below.step' HB1.out hb1
  have HO := hid (own_baseS hown1 HB1.out.size)
  have HB := hid hB1
  clear hb1 hB1 hown1
  go_wp2_with fail
  refine (HNG.out _ HB.out).mono ?_
  rintro e w2 ⟨A4, k4, rfl, hr4, hb4⟩
  have hi4 := negM_its M2
  have HNR := hid (fun w3 (hb : Below w.heap.size w w3) => negM_rows (HR2.out.2.step hb))
  obtain ⟨M4, hM4⟩ : ∃ q, q = negM M2 := ⟨_, rfl⟩
  rw [← hM4] at hi4 hr4 HNR ⊢
  clear hM4
  replace HO := hid (own_laterS HO.out hb4)
  replace HB := hid (Below.step' HB.out hb4)
  have HRM := hid hr4
  have HI4 := hid hi4
  have l4 : M4.length ≤ 800 := by rw [← its_len, hi4]; unfold negL; rw [List.length_map, its_len]; exact l2
  clear hi4 hr4 hb4
  have h2l := rcells_len M4
  go_wp2_with (at_builtin; refine wpList_append_row elem_item rfl _ _ rfl w.heap.size _ M1.length (rcells M1) rfl HO.out A4 M4.length k4 w2.heap.size (rcells M4) rfl ?_ HRM.out ?_ ?_ ?_ ?_ ?_; rotate_right; intro v7 w7 hown7 hg7 hif7; rotate_left; (first | exact h2l | exact rcells_one _ | (simp only [maxLen]; omega) | omega | exact HB.out.size); (first | exact h2l | exact rcells_one _ | (simp only [maxLen]; omega) | omega | exact HB.out.size); (first | exact h2l | exact rcells_one _ | (simp only [maxLen]; omega) | omega | exact HB.out.size); (first | exact h2l | exact rcells_one _ | (simp only [maxLen]; omega) | omega | exact HB.out.size); (first | exact h2l | exact rcells_one _ | (simp only [maxLen]; omega) | omega | exact HB.out.size))
  -- STOP-m
  have HOW7 := hid hown7
  have HG7 := hid hg7
  clear hown7 hg7 hif7
  obtain ⟨A7, k7, rfl⟩ := own_formS HOW7.out
  have HB7 := hid (HB.out.grown HG7.out HB.out.size (fun g e => (HO.out.lt g e).1))
  have hlen : M1.length + M4.length = (M1 ++ M4).length := (List.length_append ..).symm
  have HOF := HOW7.out
  rw [← rcells_app, hlen] at HOF
  have HOQ := hid HOF
  clear HOF
  rw [hlen]
  clear hlen
  go_wp2_with fail
  go_ret2
  exact linPost_mk (by rw [its, List.map_append, show M4.map IR.it = negL (its M2) from HI4.out]) ⟨Row.of_ownS HOQ.out, (HR1.out.2.step HB7.out).app (HNR.out _ HB7.out)⟩ HB7.out
set_option maxHeartbeats 1000000 in
set_option maxRecDepth 100000 in
theorem lin_k0 (sk sa sb sc so sv : Int) (sl : List Int) (sA : Option Addr) (sK : Nat) (M1 M2 : List IR) (A1 A2 : Option Addr) (c1 c2 : Nat) (w : World) (hs : Row w w.heap.size sA (icells' sl)) (h1 : RowI w w.heap.size A1 M1) (l1 : M1.length ≤ 800) (h2 : RowI w w.heap.size A2 M2) (l2 : M2.length ≤ 800) (hok : LinOk ⟨sk, sa, sb, sc, so, sv, sl⟩ (its M1) (its M2)) (hk : sk ≠ 2 ∧ sk ≠ 3 ∧ sk ≠ 5 ∧ sk ≠ 6) :
    Calls Tryz.prog 84 #[.agg #[.int .i64 sk, .int .i64 sa, .int .i64 sb, .int .i64 sc, .int .i64 so, .int .i64 sv, .slice sA sl.length sK], .slice A1 M1.length c1, .slice A2 M2.length c2] w (LinPost (linL ⟨sk, sa, sb, sc, so, sv, sl⟩ (its M1) (its M2)) (linB ⟨sk, sa, sb, sc, so, sv, sl⟩) w) := by
  obtain ⟨hk2, hk3, hk6⟩ := hok
  have HB1 : Hid (Below w.heap.size w (w.alloc (.cells #[.int .i64 sk, .int .i64 sa, .int .i64 sb, .int .i64 sc, .int .i64 so, .int .i64 sv, .slice sA sl.length sK] 89))) := hid (alloc_below (Below.refl _ _) _)
  obtain ⟨k2, k3, k5, k6⟩ := hk
  have e2 : (sk == 2) = false := by simpa using k2
  have e3 : (sk == 3) = false := by simpa using k3
  have e5 : (sk == 5) = false := by simpa using k5
  have e6 : (sk == 6) = false := by simpa using k6
  have hz : linL ⟨sk, sa, sb, sc, so, sv, sl⟩ (its M1) (its M2) = [] := by unfold linL; simp [k2, k3, k5, k6]
  have hb : linB ⟨sk, sa, sb, sc, so, sv, sl⟩ = false := by unfold linB; simp [k2, k3, k5, k6]
  rw [hz, hb]
  clear hz hb h1 h2 hs hk2 hk3 hk6
  go_enter Tryz.func84, Tryz.ntmps84
  go_wp2_with fail
  go_ret2
  exact linPost_nil rfl HB1.out

theorem linear_any (x : SR) (M1 M2 : List IR) (A1 A2 : Option Addr) (c1 c2 : Nat) (w : World) (hs : Row w w.heap.size x.A (icells' x.st.list)) (h1 : RowI w w.heap.size A1 M1) (l1 : M1.length ≤ 800) (h2 : RowI w w.heap.size A2 M2) (l2 : M2.length ≤ 800) (hok : LinOk x.st (its M1) (its M2)) :
    Calls Tryz.prog 84 #[.agg x.cells.toArray, .slice A1 M1.length c1, .slice A2 M2.length c2] w (LinPost (linL x.st (its M1) (its M2)) (linB x.st) w) := by
  obtain ⟨⟨sk, sa, sb, sc, so, sv, sl⟩, sA, sK⟩ := x
  simp only at hs hok
  by_cases k2 : sk = 2
  · subst k2; exact lin_k2 sa sb sc so sv sl sA sK M1 M2 A1 A2 c1 c2 w hs h1 l1 h2 l2 hok
  by_cases k3 : sk = 3
  · subst k3; exact lin_k3 sa sb sc so sv sl sA sK M1 M2 A1 A2 c1 c2 w hs h1 l1 h2 l2 hok
  by_cases k5 : sk = 5
  · subst k5; exact lin_k5 sa sb sc so sv sl sA sK M1 M2 A1 A2 c1 c2 w hs h1 l1 h2 l2 hok
  by_cases k6 : sk = 6
  · subst k6; exact lin_k6 sa sb sc so sv sl sA sK M1 M2 A1 A2 c1 c2 w hs h1 l1 h2 l2 hok
  exact lin_k0 sk sa sb sc so sv sl sA sK M1 M2 A1 A2 c1 c2 w hs h1 l1 h2 l2 hok ⟨k2, k3, k5, k6⟩
end Go.Proofs.YtldlmkfigjicgaaGreatDoor
/- plain.Groups: a map from a column's numbers to groups. -/
namespace Go.Proofs.YtldlmkfigjicgaaGreatDoor
set_option linter.unusedVariables false
set_option linter.unusedSimpArgs false
open Go.ChangeShapes Go.WideShapes Go.ChangeAt Go.RowKit

abbrev kI (k : Int) : Lit := .int .i64 k
theorem kI_ne {a b : Int} (h : a ≠ b) : kI a ≠ kI b := fun e => h (by injection e)
theorem isKeyI (k : Int) : WideAt.IsKeyLit (kI k) := trivial
theorem int_law : Maps.Keyed Tryz.prog 3 := Maps.int_keyed Tryz.underlying3
theorem wf_i64 {k : Int} (h : -9223372036854775808 ≤ k ∧ k ≤ 9223372036854775807) : (Lit.int .i64 k).wf = true := by
  simp [Lit.wf, IntKind.min, IntKind.max, IntKind.signed, IntKind.bits]; omega
theorem keyOf_I {k : Int} (h : -9223372036854775808 ≤ k ∧ k ≤ 9223372036854775807) : keyOf Tryz.prog 3 (.int .i64 k) = some (kI k) := Maps.keyOf_int_mk Tryz.underlying3 (wf_i64 h)
def grpD (n m : Int) : DataW Unit := .agg [.lit (.int .i64 n), .lit (.int .i64 m)]
abbrev grpv (n m : Int) : Value := .agg #[.int .i64 n, .int .i64 m]
def grpElem : Value → Option (DataW Unit × List MemPlace)
  | .agg cs => match cs.toList with
    | [.int .i64 a, .int .i64 b] => some (grpD a b, [])
    | _ => none
  | _ => none
theorem grpElem_mk (n m : Int) : grpElem (grpv n m) = some (grpD n m, []) := rfl
theorem grpElem_shape {v : Value} {y : DataW Unit × List MemPlace} (h : grpElem v = some y) : ∃ n m, v = grpv n m ∧ y.1 = grpD n m := by
  unfold grpElem at h
  split at h
  · rename_i cs
    split at h
    · rename_i a b e
      injection h with h
      refine ⟨a, b, ?_, by rw [← h]⟩
      have : cs = #[.int .i64 a, .int .i64 b] := Array.toList_inj.1 e
      rw [this]
    · cases h
  · cases h
theorem grpD_inj {a b c d : Int} (h : grpD a b = grpD c d) : a = c ∧ b = d := by
  unfold grpD at h
  injection h with h
  injection h with h1 h2
  injection h2 with h2 _
  injection h1 with h1
  injection h2 with h2
  injection h1 with _ h1
  injection h2 with _ h2
  exact ⟨h1, h2⟩
theorem grpElem_inv {v : Value} {n m : Int} {ps : List MemPlace} (h : grpElem v = some (grpD n m, ps)) : v = grpv n m := by
  obtain ⟨a, b, rfl, e⟩ := grpElem_shape h
  obtain ⟨rfl, rfl⟩ := grpD_inj e
  rfl
theorem zero_grp (w : World) : (zeroValue 122).run Tryz.prog w = .ok (grpv 0 0) w := by kernel_rfl

/-! what the map says -/
abbrev colsG (s : St) (A : List It) : List Int := A.map (fun x => colD x.1 s.col)
def GMap (s : St) (A : List It) (D : DataW Unit) : Prop :=
  Maps.IsMap D ∧ ∀ k : Int, Maps.has D (kI k) = decide (k ∈ colsG s A) ∧ (k ∈ colsG s A → ∀ z, D.atKey (kI k) z = grpD (grpN s A k) (grpS s A k))
theorem GMap.nil (s : St) : GMap s [] (.map []) := ⟨Maps.isMap_empty, fun k => ⟨rfl, fun h => by simp at h⟩⟩
theorem totF_none {f : List Int → Int} : ∀ {l : List It}, (∀ x ∈ l, f x.1 = 0) → totF f l = 0
  | [], _ => rfl
  | x :: l, h => by rw [totF, h x (by simp), totF_none fun y hy => h y (by simp [hy])]; simp
theorem grp_none {s : St} {A : List It} {k : Int} (h : k ∉ colsG s A) : grpN s A k = 0 ∧ grpS s A k = 0 := by
  have hne : ∀ x ∈ A, colD x.1 s.col ≠ k := fun x hx e => h (List.mem_map.2 ⟨x, hx, e⟩)
  unfold grpN grpS
  rw [totF_none fun x hx => if_neg (hne x hx), totF_none fun x hx => if_neg (hne x hx)]
  exact ⟨rfl, by split <;> rfl⟩
theorem GMap.at {s : St} {A : List It} {D : DataW Unit} (h : GMap s A D) (k : Int) : D.atKey (kI k) (grpD 0 0) = grpD (grpN s A k) (grpS s A k) := by
  obtain ⟨h1, h2⟩ := h.2 k
  by_cases q : k ∈ colsG s A
  · exact h2 q _
  · obtain ⟨e1, e2⟩ := grp_none q
    rw [e1, e2]
    exact Maps.atKey_of_not_has (by rw [h1]; simpa using q) _
theorem grpN_snoc (s : St) (A : List It) (x : It) (k : Int) : grpN s (A ++ [x]) k = if colD x.1 s.col = k then wrp (grpN s A k + x.2) else grpN s A k := by
  unfold grpN
  rw [totF_app, totF, totF, Int.add_zero]
  split
  · rw [wrp_add]; simp
  · simp
theorem grpS_snoc (s : St) (A : List It) (x : It) (k : Int) (h9 : s.kind = 9) : grpS s (A ++ [x]) k = if colD x.1 s.col = k then wrp (grpS s A k + wrp (x.2 * colD x.1 s.val)) else grpS s A k := by
  unfold grpS
  rw [if_pos h9, if_pos h9, totF_app, totF, totF, Int.add_zero]
  split
  · rw [wrp_add, wrp_add', Int.mul_comm]
  · simp
theorem grpS_zero (s : St) (A : List It) (k : Int) (h9 : s.kind ≠ 9) : grpS s A k = 0 := by unfold grpS; rw [if_neg h9]
theorem GMap.put {s : St} {A : List It} {D : DataW Unit} (h : GMap s A D) (x : It) : GMap s (A ++ [x]) (D.put (kI (colD x.1 s.col)) (grpD (grpN s (A ++ [x]) (colD x.1 s.col)) (grpS s (A ++ [x]) (colD x.1 s.col)))) := by
  refine ⟨h.1.put _ _, fun k => ?_⟩
  have hm : k ∈ colsG s (A ++ [x]) ↔ k ∈ colsG s A ∨ k = colD x.1 s.col := by
    unfold colsG; rw [List.map_append, List.mem_append]; simp
  by_cases e : k = colD x.1 s.col
  · subst e
    refine ⟨?_, fun _ z => Maps.atKey_put_same h.1 (isKeyI _) _ _⟩
    rw [Maps.has_put_same h.1 (isKeyI _)]
    exact (decide_eq_true (hm.2 (.inr rfl))).symm
  · have hne := kI_ne e
    obtain ⟨h1, h2⟩ := h.2 k
    refine ⟨?_, fun hk z => ?_⟩
    · rw [Maps.has_put_other hne, h1]
      exact decide_eq_decide.2 ⟨fun q => hm.2 (.inl q), fun q => (hm.1 q).resolve_right e⟩
    · rw [Maps.atKey_put_other hne, h2 ((hm.1 hk).resolve_right e) z, grpN_snoc, if_neg (fun q => e q.symm)]
      by_cases h9 : s.kind = 9
      · rw [grpS_snoc s A x k h9, if_neg (fun q => e q.symm)]
      · rw [grpS_zero s A k h9, grpS_zero s _ k h9]
theorem grp_in (s : St) (A : List It) (k : Int) : (-9223372036854775808 ≤ grpN s A k ∧ grpN s A k ≤ 9223372036854775807) ∧ -9223372036854775808 ≤ grpS s A k ∧ grpS s A k ≤ 9223372036854775807 := by
  refine ⟨wrp_in _, ?_⟩
  unfold grpS
  split
  · exact wrp_in _
  · omega

theorem wpList_look_grp {ops : Array Oper} {rest : List Oper} {o : Oper} {a : Act} {Q : Exit → Act → World → Prop} (w : World) (hg : o.guard = none) (m y : Operand) (hop : o.op = Op.lookup 95 m y false) (b n : Nat) (D : DataW Unit)
    (hm : a.eval m = .map (some b)) (hown : w.ownsMap Tryz.prog 3 grpElem b n D) (key : Value) (kl : Lit) (hx : a.eval y = key) (hkey : keyOf Tryz.prog 3 key = some kl) (g1 g2 : Int) (hat : D.atKey kl (grpD 0 0) = grpD g1 g2)
    (hK : wpList Tryz.prog ops Q rest (a.put o.dst (grpv g1 g2)) w) : wpList Tryz.prog ops Q (o :: rest) a w := by
  refine wpList_plain hg fun K' hK' => ?_
  obtain ⟨v, ps, hrun, hv⟩ := hown.lookup int_law Tryz.underlying95 (zero_grp w) (grpElem_mk 0 0) hkey
  rw [hat] at hv
  obtain rfl := grpElem_inv hv
  unfold Oper.wp
  simp [execOp, hop, hm, hx, hrun, Result.andThen]
  exact hK' _ _ hK
end Go.Proofs.YtldlmkfigjicgaaGreatDoor
/- plain.Groups: the walk; plain.Told. -/
namespace Go.Proofs.YtldlmkfigjicgaaGreatDoor
set_option linter.unusedVariables false
set_option linter.unusedSimpArgs false
open Go.ChangeShapes Go.WideShapes Go.ChangeAt Go.RowKit

/-- What a step that groups asks of its list. -/
def GrpOk (s : St) (A : List It) : Prop :=
  0 ≤ s.col ∧ (s.kind = 9 → 0 ≤ s.val) ∧ ∀ y ∈ A, s.col < (y.1.length : Int) ∧ (s.kind = 9 → s.val < (y.1.length : Int)) ∧ (∀ z ∈ y.1, -1073741824 ≤ z ∧ z ≤ 1073741824) ∧ -2097152 ≤ y.2 ∧ y.2 ≤ 2097152
def GroupsPost (s : St) (A : List It) (w : World) (e : Ending) (w' : World) : Prop :=
  ∃ (b n : Nat) (D : DataW Unit), e = .returned (.map (some b)) ∧ w'.ownsMap Tryz.prog 3 grpElem b n D ∧ GMap s A D ∧ n ≤ A.length ∧ w.heap.size ≤ b ∧ Below w.heap.size w w'
theorem colD_get {r : List Int} {j : Nat} (h : j < r.length) : colD r (j : Int) = r[j] := by
  unfold colD; rw [Int.toNat_natCast, List.getD_eq_getElem?_getD, List.getElem?_eq_getElem h]; rfl

set_option maxHeartbeats 1000000 in
set_option maxRecDepth 100000 in
theorem groups_any (x : SR) (M : List IR) (A : Option Addr) (c : Nat) (w : World) (hr : RowI w w.heap.size A M) (hl : M.length ≤ 800) (hok : GrpOk x.st (its M)) :
    Calls Tryz.prog 86 #[.agg x.cells.toArray, .slice A M.length c] w (GroupsPost x.st (its M) w) := by
  obtain ⟨⟨sk, sa, sb, sc, so, sv, sl⟩, sA, sK⟩ := x
  obtain ⟨hc0, hv0, hM⟩ := hok
  simp only at hc0 hv0 hM
  obtain ⟨j, rfl⟩ : ∃ j : Nat, sc = (j : Int) := ⟨sc.toNat, by omega⟩
  have HR := hid hr
  have HM := hid (fun y (hy : y ∈ M) => hM y.it (List.mem_map.2 ⟨y, hy, rfl⟩))
  simp only [SR.cells]
  obtain ⟨s, hs⟩ : ∃ s : St, s = ⟨sk, sa, sb, (j : Int), so, sv, sl⟩ := ⟨_, rfl⟩
  have hs9 : s.kind = sk := by rw [hs]
  have hsc : s.col = (j : Int) := by rw [hs]
  have hsv : s.val = sv := by rw [hs]
  rw [← hs]
  have HSN := hid (fun (A : List It) (x : It) (k : Int) => show grpN s (A ++ [x]) k = if colD x.1 (j : Int) = k then wrp (grpN s A k + x.2) else grpN s A k by rw [← hsc]; exact grpN_snoc s A x k)
  have HSS := hid (fun (h9 : sk = 9) (A : List It) (x : It) (k : Int) => show grpS s (A ++ [x]) k = if colD x.1 (j : Int) = k then wrp (grpS s A k + wrp (x.2 * colD x.1 sv)) else grpS s A k by rw [← hsc, ← hsv]; exact grpS_snoc s A x k (by rw [hs9]; exact h9))
  have HS0 := hid (fun (h9 : sk ≠ 9) (A : List It) (k : Int) => grpS_zero s A k (by rw [hs9]; exact h9))
  have HPT := hid (fun (A : List It) (D : DataW Unit) (h : GMap s A D) (x : It) => show GMap s (A ++ [x]) (D.put (kI (colD x.1 (j : Int))) (grpD (grpN s (A ++ [x]) (colD x.1 (j : Int))) (grpS s (A ++ [x]) (colD x.1 (j : Int))))) by rw [← hsc]; exact h.put x)
  have HV0 := hid hv0
  clear hr hM hs hs9 hsc hsv hv0
  obtain ⟨W1, hW1⟩ : ∃ W1 : World, W1 = w.alloc (.cells #[.int .i64 sk, .int .i64 sa, .int .i64 sb, .int .i64 (j : Int), .int .i64 so, .int .i64 sv, .slice sA sl.length sK] 89) := ⟨_, rfl⟩
  have HX := hid (show Blk W1 w.heap.size #[.int .i64 sk, .int .i64 sa, .int .i64 sb, .int .i64 (j : Int), .int .i64 so, .int .i64 sv, .slice sA sl.length sK] 89 by rw [hW1]; exact Blk.new _ _ _)
  have HB1 := hid (show Below w.heap.size w W1 by rw [hW1]; (repeat' (first | (with_reducible exact Below.refl _ _) | (with_reducible assumption) | (with_reducible refine below_drewN ?_ _) | (with_reducible refine Below.drew ?_) | (with_reducible refine Below.alloc ?_ ?_ _) | (with_reducible refine Below.setCell ?_ ?_ _) | (refine Below.trans ?_ (Below.mono (by assumption) ?_)) | go_size)))
  have hs1 := HB1.out.size
  have hx1 := HX.out.lt
  have hmm := @run_makeMap Tryz.prog
  have HOM := hid (World.ownsMap_made W1 Tryz.prog 3 grpElem)
  have HBM := hid ((Below.refl W1.heap.size W1).alloc (Nat.le_refl _) (.map #[] 0))
  go_enter Tryz.func86, Tryz.ntmps86
  go_upto_region 1 with fail
  rw [← hW1]
  clear hW1
  go_wp2_with fail
  -- STOP-a
  go_loopw [12] (fun s12 wr => ∃ (i : Nat) (D : DataW Unit), i ≤ M.length ∧ s12 = .int .i64 i ∧ Hid (wr.ownsMap Tryz.prog 3 grpElem W1.heap.size i D) ∧ Hid (GMap s (its (M.take i)) D) ∧ Hid (Below W1.heap.size W1 wr)) (fun s12 _ => M.length - (intOf s12).toNat)
  case atStart => exact ⟨0, .map [], by omega, rfl, HOM.out, hid (GMap.nil s), HBM⟩
  case round =>
    clear HOM HBM
    obtain ⟨i, D, hi, rfl, HOWN, HGM, HB⟩ := hrel
    have hsw := HB.out.size
    have HBW := hid (Below.step' HB1.out HB.out)
    have hmk := HOWN.out.lt
    by_cases hlt : i < M.length
    · obtain ⟨b, off, rfl, hb, e0, e1⟩ := (HR.out.1.step HBW.out).it hlt
      have HXR := hid (((HR.out.2.step HBW.out) M[i] (List.getElem_mem hlt)).1)
      obtain ⟨q1, q2, q3, q4⟩ := HM.out M[i] (List.getElem_mem hlt)
      have HTK := hid (show its (M.take (i + 1)) = its (M.take i) ++ [M[i].it] by rw [List.take_succ_eq_append_getElem hlt, its, List.map_append]; rfl)
      simp only [IR.it] at q1 q2 q3 q4 HTK
      generalize M[i] = x at *
      obtain ⟨xr, xA, xk, xn⟩ := x
      simp only at e0 e1 HXR q1 q2 q3 q4 HTK
      have hj : j < xr.length := by omega
      obtain ⟨b2, o2, rfl, hb2, hv2⟩ := HXR.out.int' hj
      have hcd := colD_get hj
      have hkin := q3 xr[j] (List.getElem_mem hj)
      obtain ⟨L, hL⟩ : ∃ L, L = its (M.take i) := ⟨_, rfl⟩
      rw [← hL] at HGM HTK
      clear hL
      have HAT := hid (HGM.out.at xr[j])
      have HN1 := hid (show grpN s (L ++ [(xr, xn)]) xr[j] = wrp (grpN s L xr[j] + xn) by rw [HSN.out, if_pos hcd])
      have HS1 := hid (fun h9 : sk = 9 => show grpS s (L ++ [(xr, xn)]) xr[j] = wrp (grpS s L xr[j] + wrp (xn * colD xr sv)) by rw [HSS.out h9, if_pos hcd])
      have HS2 := hid (fun h9 : sk ≠ 9 => show grpS s (L ++ [(xr, xn)]) xr[j] = grpS s L xr[j] by rw [HS0.out h9, HS0.out h9])
      have HPU := hid (HPT.out _ _ HGM.out (xr, xn))
      simp only [hcd] at HPU
      have HKI := hid (keyOf_I (k := xr[j]) (by omega))
      have HVV := hid (fun h9 : sk = 9 => HV0.out h9)
      have HVL := hid q2
      generalize xr[j] = key at *
      obtain ⟨g1, hg1⟩ : ∃ q, q = grpN s L key := ⟨_, rfl⟩
      obtain ⟨g2, hg2⟩ : ∃ q, q = grpS s L key := ⟨_, rfl⟩
      obtain ⟨n1, hn1⟩ : ∃ q, q = grpN s (L ++ [(xr, xn)]) key := ⟨_, rfl⟩
      obtain ⟨n2, hn2⟩ : ∃ q, q = grpS s (L ++ [(xr, xn)]) key := ⟨_, rfl⟩
      rw [← hg1] at HAT HN1
      rw [← hg2] at HAT HS1 HS2
      rw [← hn1] at HN1 HPU
      rw [← hn2] at HS1 HS2 HPU
      have hwn : IntKind.i64.wrap (g1 + xn) = n1 := HN1.out.symm
      clear hg1 hg2 hn1 hn2 q1 q2 hcd
      have hneb : (b = wr.heap.size) = False := by simp; omega
      have hneb2 : (b2 = wr.heap.size) = False := by simp; omega
      have hneb3 : (b2 = wr.heap.size + 1) = False := by simp; omega
      obtain ⟨wo, rfl⟩ : ∃ wx : World, wx = wr := ⟨_, rfl⟩
      have HXO := hid (HX.out.step HB.out)
      have hjl : (j : Int) < (xr.length : Int) := by omega
      have HX4 := hid ((Blk.new wo #[.slice (some ⟨b2, o2, none⟩) xr.length xk, .int .i64 xn] 67).alloc (.cells #[.int .i64 n1, .int .i64 g2] 122))
      have HG4 := hid (Blk.new' (wo.alloc (.cells #[.slice (some ⟨b2, o2, none⟩) xr.length xk, .int .i64 xn] 67)) (b := wo.heap.size + 1) #[.int .i64 n1, .int .i64 g2] 122 (by simp))
      have HB4 := hid (alloc_below (alloc_below (Below.refl wo.heap.size wo) (.cells #[.slice (some ⟨b2, o2, none⟩) xr.length xk, .int .i64 xn] 67)) (.cells #[.int .i64 n1, .int .i64 g2] 122))
      have HOW4 := hid ((HOWN.out.alloc (.cells #[.slice (some ⟨b2, o2, none⟩) xr.length xk, .int .i64 xn] 67)).alloc (.cells #[.int .i64 n1, .int .i64 g2] 122))
      obtain ⟨W4, hW4⟩ : ∃ W4 : World, W4 = (wo.alloc (.cells #[.slice (some ⟨b2, o2, none⟩) xr.length xk, .int .i64 xn] 67)).alloc (.cells #[.int .i64 n1, .int .i64 g2] 122) := ⟨_, rfl⟩
      rw [← hW4] at HX4 HG4 HB4 HOW4
      have HW4 := hid hW4
      clear hW4
      have hv4 := ((bcell HB4.out).1 b2 _ hb2).trans hv2
      have hb4 : b2 < W4.heap.size := Nat.lt_of_lt_of_le hb2 HB4.out.size
      have HX4S := hid (HXO.out.step HB4.out)
      by_cases h9 : sk = 9
      · obtain ⟨jv, hjv⟩ : ∃ jv : Nat, sv = (jv : Int) := ⟨sv.toNat, by have := HVV.out h9; omega⟩
        have hjvl : jv < xr.length := by have := HVL.out h9; omega
        subst hjv
        obtain ⟨b2', o2', e', -, hvv⟩ := HXR.out.int' hjvl
        injection e' with e'
        injection e' with e1' e2'
        subst e1' e2'
        have hcd := colD_get hjvl
        replace HS1 := hid (HS1.out h9)
        rw [hcd] at HS1
        generalize xr[jv] = u2 at *
        have hvv4 := ((bcell HB4.out).1 b2 _ hb2).trans hvv
        have hjvl2 : (jv : Int) < (xr.length : Int) := by omega
        obtain ⟨pp, hpp⟩ : ∃ q, q = wrp (xn * u2) := ⟨_, rfl⟩
        have hwp : IntKind.i64.wrap (xn * u2) = pp := hpp.symm
        rw [← hpp] at HS1
        have hw2 : IntKind.i64.wrap (g2 + pp) = n2 := HS1.out.symm
        have t9 : (sk == 9) = true := by simp [h9]
        clear hpp hcd h9 HS2 hvv
        obtain ⟨cHXO, fHXO, sHXO, nHXO⟩ := HXO.out.all
        try simp only [cbox] at cHXO
        go_upto_region 8 with (at_lookup; refine wpList_look_grp _ rfl _ _ rfl W1.heap.size i D rfl (HOWN.out.alloc _) _ (kI key) rfl HKI.out g1 g2 HAT.out ?_)
        rw [← HW4.out]
        clear cHXO fHXO sHXO nHXO
        clear e0 e1 hneb hneb2 hneb3
        obtain ⟨cHX4, fHX4, sHX4, nHX4⟩ := HX4.out.all
        try simp only [cbox] at cHX4
        obtain ⟨cHG4, fHG4, sHG4, nHG4⟩ := HG4.out.all
        try simp only [cbox] at cHG4
        obtain ⟨cHX4S, fHX4S, sHX4S, nHX4S⟩ := HX4S.out.all
        try simp only [cbox] at cHX4S
        refine region_tail 13 (by kernel_rfl) (by kernel_rfl) ?_
        simp only [List.take_succ_cons, List.take_zero, List.drop_succ_cons, List.drop_zero]
        repeat still_step
        refine wpStill_nil ?_
        go_upto_region 9 with fail
        clear cHX4 fHX4 sHX4 nHX4
        clear cHG4 fHG4 sHG4 nHG4
        clear cHX4S fHX4S sHX4S nHX4S
        have HG5 := hid ((HG4.out.set 1 (.int .i64 n2)).drew)
        have HX5 := hid ((HX4.out.other (a := ⟨wo.heap.size + 1, 1, none⟩) (by simp) (.int .i64 n2)).drew)
        have HX5S := hid ((HX4S.out.other (a := ⟨wo.heap.size + 1, 1, none⟩) (by simp; have := HX.out.lt; omega) (.int .i64 n2)).drew)
        have HOW5 := hid ((HOW4.out.setCell (a := ⟨wo.heap.size + 1, 1, none⟩) (by simp; omega) (.int .i64 n2)).drew)
        have HB5 := hid ((HB4.out.setCell (p := ⟨wo.heap.size + 1, 1, none⟩) (by simp) (.int .i64 n2)).drew)
        obtain ⟨W5, hW5⟩ : ∃ W5 : World, W5 = (W4.setCell ⟨wo.heap.size + 1, 1, none⟩ (.int .i64 n2)).drew := ⟨_, rfl⟩
        rw [← hW5] at HG5 HX5 HX5S HOW5 HB5 ⊢
        clear hW5
        -- STOP-c
        have hv5 := ((bcell HB5.out).1 b2 _ hb2).trans hv2
        have hb5 : b2 < W5.heap.size := Nat.lt_of_lt_of_le hb2 HB5.out.size
        have hmk5 := HOW5.out.lt
        clear HOW4 HG4 HX4 HX4S hv4 hb4
        obtain ⟨cHX5, fHX5, sHX5, nHX5⟩ := HX5.out.all
        try simp only [cbox] at cHX5
        obtain ⟨cHG5, fHG5, sHG5, nHG5⟩ := HG5.out.all
        try simp only [cbox] at cHG5
        obtain ⟨cHX5S, fHX5S, sHX5S, nHX5S⟩ := HX5S.out.all
        try simp only [cbox] at cHX5S
        refine region_tail 8 (by kernel_rfl) (by kernel_rfl) ?_
        simp only [List.take_succ_cons, List.take_zero, List.drop_succ_cons, List.drop_zero]
        repeat still_step
        refine wpStill_nil ?_
        go_wp2_with (at_mapUpdate; refine wpList_mapUpdate_own _ rfl _ _ _ 95 rfl 3 122 int_law Tryz.underlying95 grpElem W1.heap.size i D rfl HOW5.out.drew (by simp only [maxLen]; omega) _ _ (kI key) rfl rfl HKI.out (grpD n1 n2) [] (grpElem_mk n1 n2) ?_; intro w6 hown6 hg6)
        have HOW6 := hid hown6
        have HG6 := hid hg6
        clear hown6 hg6
        go_roundw
        case rel =>
          refine ⟨i + 1, D.put (kI key) (grpD n1 n2), by omega, by go_num, HOW6, hid (by rw [HTK.out]; exact HPU.out), hid ((HB.out.trans ((HB5.out.drew).mono hsw)).grown HG6.out (by have := HB5.out.size; simp; omega) (fun g e => by injection e with e; omega))⟩
        case measure => simp [intOf]; omega
      · have t9 : (sk == 9) = false := by simp [h9]
        have hn2 := (HS2.out h9).symm
        subst hn2
        clear h9 HS1 HS2
        obtain ⟨cHXO, fHXO, sHXO, nHXO⟩ := HXO.out.all
        try simp only [cbox] at cHXO
        go_upto_region 9 with (at_lookup; refine wpList_look_grp _ rfl _ _ rfl W1.heap.size i D rfl (HOWN.out.alloc _) _ (kI key) rfl HKI.out g1 g2 HAT.out ?_)
        rw [← HW4.out]
        clear cHXO fHXO sHXO nHXO
        clear e0 e1 hneb hneb2 hneb3
        have HG5 := HG4
        have HX5 := HX4
        have HX5S := HX4S
        have HOW5 := HOW4
        have HB5 := HB4
        obtain ⟨W5, hW5⟩ : ∃ W5 : World, W5 = W4 := ⟨_, rfl⟩
        rw [← hW5] at HG5 HX5 HX5S HOW5 HB5 ⊢
        clear hW5
        -- STOP-d
        have hv5 := ((bcell HB5.out).1 b2 _ hb2).trans hv2
        have hb5 : b2 < W5.heap.size := Nat.lt_of_lt_of_le hb2 HB5.out.size
        have hmk5 := HOW5.out.lt
        clear HOW4 HG4 HX4 HX4S hv4 hb4
        obtain ⟨cHX5, fHX5, sHX5, nHX5⟩ := HX5.out.all
        try simp only [cbox] at cHX5
        obtain ⟨cHG5, fHG5, sHG5, nHG5⟩ := HG5.out.all
        try simp only [cbox] at cHG5
        obtain ⟨cHX5S, fHX5S, sHX5S, nHX5S⟩ := HX5S.out.all
        try simp only [cbox] at cHX5S
        refine region_tail 8 (by kernel_rfl) (by kernel_rfl) ?_
        simp only [List.take_succ_cons, List.take_zero, List.drop_succ_cons, List.drop_zero]
        repeat still_step
        refine wpStill_nil ?_
        go_wp2_with (at_mapUpdate; refine wpList_mapUpdate_own _ rfl _ _ _ 95 rfl 3 122 int_law Tryz.underlying95 grpElem W1.heap.size i D rfl HOW5.out.drew (by simp only [maxLen]; omega) _ _ (kI key) rfl rfl HKI.out (grpD n1 g2) [] (grpElem_mk n1 g2) ?_; intro w6 hown6 hg6)
        have HOW6 := hid hown6
        have HG6 := hid hg6
        clear hown6 hg6
        go_roundw
        case rel =>
          refine ⟨i + 1, D.put (kI key) (grpD n1 g2), by omega, by go_num, HOW6, hid (by rw [HTK.out]; exact HPU.out), hid ((HB.out.trans ((HB5.out.drew).mono hsw)).grown HG6.out (by have := HB5.out.size; simp; omega) (fun g e => by injection e with e; omega))⟩
        case measure => simp [intOf]; omega
    · have hik : i = M.length := by omega
      subst hik
      rw [List.take_length] at HGM
      go_wp2_with fail
      go_ret
      exact ⟨W1.heap.size, M.length, D, rfl, HOWN.out, HGM.out, by rw [its_len]; exact Nat.le_refl _, hs1, HBW.out⟩
end Go.Proofs.YtldlmkfigjicgaaGreatDoor
/- plain.Told. -/
namespace Go.Proofs.YtldlmkfigjicgaaGreatDoor
set_option linter.unusedVariables false
set_option linter.unusedSimpArgs false
open Go.ChangeShapes Go.WideShapes Go.ChangeAt Go.RowKit

theorem told_row (key v : Int) (w W : World) (hW : Below w.heap.size w W) :
    ItsPost [([key, v], 1)] w (.returned (.slice (some ⟨W.heap.size + 1, 0, none⟩) 1 1)) ((W.alloc (.cells #[.int .i64 key, .int .i64 v] 3)).alloc (.cells #[.slice (some ⟨W.heap.size, 0, none⟩) 2 2, .int .i64 1] 67)) := by
  have hs := hW.size
  refine ⟨some ⟨W.heap.size + 1, 0, none⟩, 1, [⟨[key, v], some ⟨W.heap.size, 0, none⟩, 2, 1⟩], rfl, rfl, ⟨rfl, .inr ⟨W.heap.size + 1, 1, #[.slice (some ⟨W.heap.size, 0, none⟩) 2 2, .int .i64 1], rfl, by omega, ?_, Nat.le_refl _, by decide, rfl, rfl⟩⟩, ?_, alloc_below (alloc_below hW _) _⟩
  · have := heap_alloc_new (W.alloc (.cells #[.int .i64 key, .int .i64 v] 3)) (.cells #[.slice (some ⟨W.heap.size, 0, none⟩) 2 2, .int .i64 1] 67)
    simpa using this
  · intro x hx
    rw [List.mem_singleton.1 hx]
    refine ⟨RowOwn.of_own (l := [key, v]) (B := 0) (n := 2) (World.ownsRow.alloc (show (W.alloc (.cells #[.int .i64 key, .int .i64 v] 3)).ownsRow 0 3 1 (.slice (some ⟨W.heap.size, 0, none⟩) 2 2) 2 (icells' [key, v]) from ⟨rfl, .inr ⟨W.heap.size, 2, #[.int .i64 key, .int .i64 v], rfl, Nat.zero_le _, heap_alloc_new _ _, Nat.le_refl _, by decide, rfl, rfl⟩⟩) _) rfl, newAt_some hs, fun b off q e => ?_, by simp⟩
    simp only [Option.some.injEq, Addr.mk.injEq] at e
    obtain ⟨rfl, -, -⟩ := e
    refine ⟨fun e => ?_, by simp; omega⟩
    simp [Value.ownBlock] at e

set_option maxHeartbeats 400000 in
set_option maxRecDepth 100000 in
theorem told_any (x : SR) (key n m : Int) (w : World) :
    Calls Tryz.prog 87 #[.agg x.cells.toArray, .int .i64 key, grpv n m] w (ItsPost (toldL x.st key n m) w) := by
  obtain ⟨⟨sk, sa, sb, sc, so, sv, sl⟩, sA, sK⟩ := x
  simp only [SR.cells, grpv]
  obtain ⟨X, hX⟩ : ∃ X, X = toldL ⟨sk, sa, sb, sc, so, sv, sl⟩ key n m := ⟨_, rfl⟩
  rw [← hX]
  have HX := hid hX
  clear hX
  have HR := hid (fun v W hW => told_row key v w W hW)
  have HB := hid (alloc_below (alloc_below (Below.refl w.heap.size w) (.cells #[.int .i64 sk, .int .i64 sa, .int .i64 sb, .int .i64 sc, .int .i64 so, .int .i64 sv, .slice sA sl.length sK] 89)) (.cells #[.int .i64 n, .int .i64 m] 122))
  by_cases h0 : n = 0
  · have t0 : (n == 0) = true := by simp [h0]
    have HX0 := hid (show X = [] by rw [HX.out]; unfold toldL; rw [if_pos h0])
    clear h0
    go_enter Tryz.func87, Tryz.ntmps87
    go_wp2
    go_ret
    exact ⟨none, 0, [], rfl, HX0.out.symm, World.ownsRow_nil _ _ _ _, RowsNew.nil _ _ _, HB.out⟩
  · have t0 : (n == 0) = false := by simp [h0]
    by_cases h9 : sk = 9
    · have t9 : (sk == 9) = true := by simp [h9]
      have HX0 := hid (show X = [([key, m], 1)] by rw [HX.out]; unfold toldL; rw [if_neg h0, if_pos h9])
      clear h0 h9
      go_enter Tryz.func87, Tryz.ntmps87
      go_wp2
      go_ret
      rw [HX0.out]
      have := HR.out m _ HB.out
      simpa using this
    · have t9 : (sk == 9) = false := by simp [h9]
      have HX0 := hid (show X = [([key, n], 1)] by rw [HX.out]; unfold toldL; rw [if_neg h0, if_neg h9])
      clear h0 h9
      go_enter Tryz.func87, Tryz.ntmps87
      go_wp2
      go_ret
      rw [HX0.out]
      have := HR.out n _ HB.out
      simpa using this
end Go.Proofs.YtldlmkfigjicgaaGreatDoor
