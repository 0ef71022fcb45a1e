/- MdA, MdB -/
import Derived.Test.YtldlmkfigjicgaaGreatDoorIncPlaysCardS20
import Derived.Deep.RegionLaw
/- viewref.made: where, distinct, union, minus. -/
namespace Go.Proofs.YtldlmkfigjicgaaGreatDoor
set_option linter.unusedVariables false
set_option linter.unusedSimpArgs false
open Go.ChangeShapes Go.WideShapes Go.ChangeAt Go.RowKit

theorem once_nil (w : World) : Calls Tryz.prog 81 #[.slice none 0 0] w (fun e w' => ∃ A k, e = .returned (.slice A 0 k) ∧ Below w.heap.size w w') := by
  refine (once_any [] none 0 w Row.nil (by simp)).mono ?_
  rintro e w' h
  obtain ⟨v, rfl, ho, hb⟩ := h
  rw [show onceI [] = [] by simp [onceI, isort, Lib.compact, Lib.compactUpTo]] at ho
  obtain ⟨A, k, rfl⟩ := own_formS ho
  exact ⟨A, k, rfl, hb⟩
theorem two_oneC (A : Option Addr) (n c : Nat) (p : Int) : ∀ u ∈ ([.slice A n c, .int .i64 p] : List Value), u.oneCell' = true := by
  intro u hu
  simp only [List.mem_cons, List.not_mem_nil, or_false] at hu
  rcases hu with rfl | rfl <;> rfl

set_option maxHeartbeats 1000000 in
set_option maxRecDepth 100000 in
theorem made_k2 (sa sb sc so sv : Int) (sl : List Int) (sA : Option Addr) (sK : Nat) (M1 M2 : List IR) (A1 A2 : Option Addr) (c1 c2 : Nat) (w : World) (hr : RowI w w.heap.size A1 M1) (hl : M1.length ≤ 800) (hc : 0 ≤ sc ∧ ∀ y ∈ M1, sc < (y.row.length : Int)) (ho : 1 ≤ so ∧ so ≤ 3) :
    Calls Tryz.prog 57 #[.agg #[.int .i64 2, .int .i64 sa, .int .i64 sb, .int .i64 sc, .int .i64 so, .int .i64 sv, .slice sA sl.length sK], .slice A1 M1.length c1, .slice A2 M2.length c2] w (LiPost (whereL ⟨2, sa, sb, sc, so, sv, sl⟩ (its M1)) w) := by
  obtain ⟨hc0, hc1⟩ := hc
  obtain ⟨j, rfl⟩ : ∃ j : Nat, sc = (j : Int) := ⟨sc.toNat, by omega⟩
  have HR := hid hr
  have HC := hid hc1
  obtain ⟨s, hs⟩ : ∃ s : St, s = ⟨2, sa, sb, (j : Int), so, sv, sl⟩ := ⟨_, rfl⟩
  have HF := hid (fun i (hi : i < M1.length) => show whereM s (M1.take (i + 1)) = whereM s (M1.take i) ++ (if stHolds so (colD M1[i].row j) sv = true then [M1[i]] else []) by
    unfold whereM
    rw [List.take_succ_eq_append_getElem hi, List.filter_append, List.filter_cons, List.filter_nil, hs])
  have HLe := hid (fun i => show (whereM s (M1.take i)).length ≤ i from Nat.le_trans (List.length_filter_le _ _) (List.length_take_le _ _))
  have HIT := hid (whereM_its s M1)
  have HSUB := hid (fun x (hx : x ∈ whereM s M1) => show x ∈ M1 from (List.mem_filter.1 hx).1)
  have hw0 : whereM s (M1.take 0) = [] := rfl
  have HW0 := hid hw0
  have HO := hid (show so = 1 ∨ so = 2 ∨ so = 3 by omega)
  rw [← hs]
  clear hr hc1 hs hw0 ho
  have HON := hid (fun w1 => once_nil w1)
  obtain ⟨W1, hW1⟩ : ∃ W1 : World, W1 = w.alloc (.cells #[.int .i64 2, .int .i64 sa, .int .i64 sb, .int .i64 (j : Int), .int .i64 so, .int .i64 sv, .slice sA sl.length sK] 89) := ⟨_, rfl⟩
  have HX := hid (show Blk W1 w.heap.size #[.int .i64 2, .int .i64 sa, .int .i64 sb, .int .i64 (j : Int), .int .i64 so, .int .i64 sv, .slice sA sl.length sK] 89 by rw [hW1]; exact Blk.new _ _ _)
  have HB1 := hid (show Below w.heap.size w W1 by rw [hW1]; (repeat' (first | (with_reducible exact Below.refl _ _) | (with_reducible assumption) | (with_reducible refine below_drewN ?_ _) | (with_reducible refine Below.drew ?_) | (with_reducible refine Below.alloc ?_ ?_ _) | (with_reducible refine Below.setCell ?_ ?_ _) | (refine Below.trans ?_ (Below.mono (by assumption) ?_)) | go_size)))
  have hs1 := HB1.out.size
  go_enter Tryz.func57, Tryz.ntmps57
  go_wp2_with fail
  rw [← hW1]
  clear hW1
  go_loopw [7, 8, 9] (fun s7 s8 s9 wr => ∃ i : Nat, i ≤ M1.length ∧ s9 = .int .i64 i ∧ s8 = .slice none 0 0 ∧ Hid (wr.ownsRow W1.heap.size 67 2 s7 (whereM s (M1.take i)).length (rcells (whereM s (M1.take i)))) ∧ Hid (Below W1.heap.size W1 wr)) (fun _ _ s9 _ => M1.length - (intOf s9).toNat)
  case atStart => exact ⟨0, by omega, rfl, rfl, hid (by rw [HW0.out]; exact World.ownsRow_nil _ _ _ _), hid (Below.refl _ _)⟩
  case round =>
    obtain ⟨i, hi, rfl, rfl, HOWN, HB⟩ := hrel
    obtain ⟨A5, c5, rfl⟩ := own_formS HOWN.out
    have hsw := HB.out.size
    have hOl := HLe.out i
    have HBW := hid (Below.step' HB1.out HB.out)
    by_cases hlt : i < M1.length
    · obtain ⟨b, off, rfl, hb, e0, e1⟩ := (HR.out.1.step HBW.out).it hlt
      obtain ⟨xl, xll⟩ := (HR.out.2.step HBW.out) M1[i] (List.getElem_mem hlt)
      have HFI := hid (HF.out i hlt)
      have hcx := HC.out M1[i] (List.getElem_mem hlt)
      generalize M1[i] = x at *
      obtain ⟨xr, xA, xk, xn⟩ := x
      simp only at e0 e1 xl xll hcx HFI
      have hj : j < xr.length := by omega
      obtain ⟨b2, o2, rfl, hb2, hv2⟩ := xl.int' hj
      have hcd : colD xr j = xr[j] := by unfold colD; rw [Int.toNat_natCast, List.getD_eq_getElem?_getD, List.getElem?_eq_getElem hj]; rfl
      rw [hcd] at HFI
      generalize xr[j] = u at *
      have hneb2 : (b2 = wr.heap.size) = False := by simp; omega
      have hjl : (j : Int) < (xr.length : Int) := by omega
      clear hcd hcx xl
      have hneb : (b = wr.heap.size) = False := by simp; omega
      obtain ⟨O, hO⟩ : ∃ O, O = whereM s (M1.take i) := ⟨_, rfl⟩
      rw [← hO] at HOWN HFI hOl ⊢
      clear hO
      obtain ⟨wo, rfl⟩ : ∃ wx : World, wx = wr := ⟨_, rfl⟩
      have HXO := hid (HX.out.step HB.out)
      obtain ⟨W2, hW2⟩ : ∃ W2 : World, W2 = wo.alloc (.cells #[.slice (some ⟨b2, o2, none⟩) xr.length xk, .int .i64 xn] 67) := ⟨_, rfl⟩
      have HX2 := hid (show Blk W2 wo.heap.size #[.slice (some ⟨b2, o2, none⟩) xr.length xk, .int .i64 xn] 67 by rw [hW2]; exact Blk.new _ _ _)
      have HBO := hid (show Below wo.heap.size wo W2 by rw [hW2]; exact alloc_below (Below.refl _ _) _)
      have HO2 := hid (show W2.ownsRow W1.heap.size 67 2 (.slice A5 O.length c5) O.length (rcells O) by rw [hW2]; exact HOWN.out.alloc _)
      replace HXO := hid (HXO.out.step HBO.out)
      have hv3 := ((bcell HBO.out).1 b2 _ hb2).trans hv2
      have hb3 : b2 < W2.heap.size := Nat.lt_of_lt_of_le hb2 HBO.out.size
      go_upto_region 7 with fail
      rw [← hW2]
      clear hW2 hv2 e0 e1
      obtain ⟨cHXO, fHXO, sHXO, nHXO⟩ := HXO.out.all
      try simp only [cbox] at cHXO
      obtain ⟨cHX2, fHX2, sHX2, nHX2⟩ := HX2.out.all
      try simp only [cbox] at cHX2
      rcases HO.out with ho | ho | ho
      · subst ho
        by_cases q : u < sv
        · have t1 : (u < sv) = True := eq_true q
          have HQ := hid (show stHolds 1 u sv = true by unfold stHolds; simp [q])
          rw [HQ.out] at HFI
          clear q HQ
          -- STOP-w0
          go_wp2_with (at_builtin; refine wpList_append_row elem_item rfl _ _ rfl W1.heap.size _ _ _ rfl (HO2.out.alloc _) (some ⟨W2.heap.size, 0, none⟩) 1 1 (W2.heap.size + 1) [.slice (some ⟨b2, o2, none⟩) xr.length xk, .int .i64 xn] rfl rfl (by exact Row.new' W2 _ _ rfl rfl (Nat.lt_succ_self _)) (two_oneC _ _ _ _) ?_ ?_ ?_ ?_; rotate_right; intro v7 w7 hown7 hg7 hif7; rotate_left; (simp only [maxLen]; omega); (omega); (have := HBO.out.size; simp; omega))
          have HOW7 := hid hown7
          have HG7 := hid hg7
          clear hown7 hg7 hif7
          go_roundw
          case rel =>
            refine ⟨i + 1, by omega, by go_num, by first | rfl | trivial, hid ?_, hid (Below.grown (alloc_below (HB.out.trans (HBO.out.mono hsw)) _) HG7.out (by have := HBO.out.size; simp; omega) (fun g e => (HO2.out.lt g e).1))⟩
            rw [HFI.out, if_pos (by first | trivial | rfl), rcells_app, List.length_append]
            simpa using HOW7.out
          case measure => simp [intOf]; omega
        · have t1 : (u < sv) = False := eq_false q
          have HQ := hid (show stHolds 1 u sv = false by unfold stHolds; simp [q])
          rw [HQ.out] at HFI
          clear q HQ
          go_wp2_with fail
          go_roundw
          case rel =>
            refine ⟨i + 1, by omega, by go_num, by first | rfl | trivial, hid ?_, hid (HB.out.trans (HBO.out.mono hsw))⟩
            rw [HFI.out, if_neg (by simp), List.append_nil]
            exact HO2.out
          case measure => simp [intOf]; omega
      · subst ho
        by_cases q : u = sv
        · have t1 : (u == sv) = true := by simp [q]
          have HQ := hid (show stHolds 2 u sv = true by unfold stHolds; simp [q])
          rw [HQ.out] at HFI
          clear q HQ
          -- STOP-w1
          go_wp2_with (at_builtin; refine wpList_append_row elem_item rfl _ _ rfl W1.heap.size _ _ _ rfl (HO2.out.alloc _) (some ⟨W2.heap.size, 0, none⟩) 1 1 (W2.heap.size + 1) [.slice (some ⟨b2, o2, none⟩) xr.length xk, .int .i64 xn] rfl rfl (by exact Row.new' W2 _ _ rfl rfl (Nat.lt_succ_self _)) (two_oneC _ _ _ _) ?_ ?_ ?_ ?_; rotate_right; intro v7 w7 hown7 hg7 hif7; rotate_left; (simp only [maxLen]; omega); (omega); (have := HBO.out.size; simp; omega))
          have HOW7 := hid hown7
          have HG7 := hid hg7
          clear hown7 hg7 hif7
          go_roundw
          case rel =>
            refine ⟨i + 1, by omega, by go_num, by first | rfl | trivial, hid ?_, hid (Below.grown (alloc_below (HB.out.trans (HBO.out.mono hsw)) _) HG7.out (by have := HBO.out.size; simp; omega) (fun g e => (HO2.out.lt g e).1))⟩
            rw [HFI.out, if_pos (by first | trivial | rfl), rcells_app, List.length_append]
            simpa using HOW7.out
          case measure => simp [intOf]; omega
        · have t1 : (u == sv) = false := by simp [q]
          have HQ := hid (show stHolds 2 u sv = false by unfold stHolds; simp [q])
          rw [HQ.out] at HFI
          clear q HQ
          go_wp2_with fail
          go_roundw
          case rel =>
            refine ⟨i + 1, by omega, by go_num, by first | rfl | trivial, hid ?_, hid (HB.out.trans (HBO.out.mono hsw))⟩
            rw [HFI.out, if_neg (by simp), List.append_nil]
            exact HO2.out
          case measure => simp [intOf]; omega
      · subst ho
        by_cases q : sv < u
        · have t1 : (sv < u) = True := eq_true q
          have HQ := hid (show stHolds 3 u sv = true by unfold stHolds; simp [q])
          rw [HQ.out] at HFI
          clear q HQ
          -- STOP-w2
          go_wp2_with (at_builtin; refine wpList_append_row elem_item rfl _ _ rfl W1.heap.size _ _ _ rfl (HO2.out.alloc _) (some ⟨W2.heap.size, 0, none⟩) 1 1 (W2.heap.size + 1) [.slice (some ⟨b2, o2, none⟩) xr.length xk, .int .i64 xn] rfl rfl (by exact Row.new' W2 _ _ rfl rfl (Nat.lt_succ_self _)) (two_oneC _ _ _ _) ?_ ?_ ?_ ?_; rotate_right; intro v7 w7 hown7 hg7 hif7; rotate_left; (simp only [maxLen]; omega); (omega); (have := HBO.out.size; simp; omega))
          have HOW7 := hid hown7
          have HG7 := hid hg7
          clear hown7 hg7 hif7
          go_roundw
          case rel =>
            refine ⟨i + 1, by omega, by go_num, by first | rfl | trivial, hid ?_, hid (Below.grown (alloc_below (HB.out.trans (HBO.out.mono hsw)) _) HG7.out (by have := HBO.out.size; simp; omega) (fun g e => (HO2.out.lt g e).1))⟩
            rw [HFI.out, if_pos (by first | trivial | rfl), rcells_app, List.length_append]
            simpa using HOW7.out
          case measure => simp [intOf]; omega
        · have t1 : (sv < u) = False := eq_false q
          have HQ := hid (show stHolds 3 u sv = false by unfold stHolds; simp [q])
          rw [HQ.out] at HFI
          clear q HQ
          go_wp2_with fail
          go_roundw
          case rel =>
            refine ⟨i + 1, by omega, by go_num, by first | rfl | trivial, hid ?_, hid (HB.out.trans (HBO.out.mono hsw))⟩
            rw [HFI.out, if_neg (by simp), List.append_nil]
            exact HO2.out
          case measure => simp [intOf]; omega
    · have hik : i = M1.length := by omega
      subst hik
      rw [List.take_length] at HOWN ⊢
      have HXE := hid (HX.out.step HB.out)
      obtain ⟨cHXE, fHXE, sHXE, nHXE⟩ := HXE.out.all
      try simp only [cbox] at cHXE
      go_wp2_with (go_at_call 81; refine (HON.out _).mono ?_; rintro e w2 ⟨AK, kK, rfl, hb2⟩; have HBK := hid hb2)
      -- STOP-e2
      go_wp2_with fail
      go_loopw [7, 15] (fun s7 s15 wx => s7 = .slice A5 (whereM s M1).length c5 ∧ s15 = .int .i64 0 ∧ wx = w2) (fun _ _ _ => 0)
      case atStart => exact ⟨rfl, rfl, rfl⟩
      case round =>
        obtain ⟨rfl, rfl, rfl⟩ := hrel
        go_wp2_with fail
        go_ret
        refine ⟨A5, c5, whereM s M1, rfl, HIT.out, ⟨Row.of_ownS (own_laterS HOWN.out HBK.out), ((HR.out.2.step HBW.out).sub HSUB.out).step HBK.out⟩, Below.step' HBW.out HBK.out⟩

set_option maxHeartbeats 1000000 in
set_option maxRecDepth 100000 in
theorem made_k7 (sa sb sc so sv : Int) (sl : List Int) (sA : Option Addr) (sK : Nat) (M1 M2 : List IR) (A1 A2 : Option Addr) (c1 c2 : Nat) (w : World) (hr : RowI w w.heap.size A1 M1) (hl : M1.length ≤ 800) :
    Calls Tryz.prog 57 #[.agg #[.int .i64 7, .int .i64 sa, .int .i64 sb, .int .i64 sc, .int .i64 so, .int .i64 sv, .slice sA sl.length sK], .slice A1 M1.length c1, .slice A2 M2.length c2] w (LiPost (distL (its M1)) w) := by
  have HR := hid hr
  have HF := hid (fun i (hi : i < M1.length) => distM_snoc M1 i hi)
  have HLe := hid (fun i => distM_len M1 i)
  have HIT := hid (distM_its M1)
  have hw0 : distM (M1.take 0) = [] := rfl
  have HW0 := hid hw0
  clear hr hw0
  have HON := hid (fun w1 => once_nil w1)
  obtain ⟨W1, hW1⟩ : ∃ W1 : World, W1 = w.alloc (.cells #[.int .i64 7, .int .i64 sa, .int .i64 sb, .int .i64 sc, .int .i64 so, .int .i64 sv, .slice sA sl.length sK] 89) := ⟨_, rfl⟩
  have HX := hid (show Blk W1 w.heap.size #[.int .i64 7, .int .i64 sa, .int .i64 sb, .int .i64 sc, .int .i64 so, .int .i64 sv, .slice sA sl.length sK] 89 by rw [hW1]; exact Blk.new _ _ _)
  have HB1 := hid (show Below w.heap.size w W1 by rw [hW1]; (repeat' (first | (with_reducible exact Below.refl _ _) | (with_reducible assumption) | (with_reducible refine below_drewN ?_ _) | (with_reducible refine Below.drew ?_) | (with_reducible refine Below.alloc ?_ ?_ _) | (with_reducible refine Below.setCell ?_ ?_ _) | (refine Below.trans ?_ (Below.mono (by assumption) ?_)) | go_size)))
  have hs1 := HB1.out.size
  go_enter Tryz.func57, Tryz.ntmps57
  go_wp2_with fail
  rw [← hW1]
  clear hW1
  go_loopw [7, 8, 9] (fun s7 s8 s9 wr => ∃ i : Nat, i ≤ M1.length ∧ s9 = .int .i64 i ∧ s8 = .slice none 0 0 ∧ Hid (wr.ownsRow W1.heap.size 67 2 s7 (distM (M1.take i)).length (rcells (distM (M1.take i)))) ∧ Hid (Below W1.heap.size W1 wr)) (fun _ _ s9 _ => M1.length - (intOf s9).toNat)
  case atStart => exact ⟨0, by omega, rfl, rfl, hid (by rw [HW0.out]; exact World.ownsRow_nil _ _ _ _), hid (Below.refl _ _)⟩
  case round =>
    obtain ⟨i, hi, rfl, rfl, HOWN, HB⟩ := hrel
    obtain ⟨A5, c5, rfl⟩ := own_formS HOWN.out
    have hsw := HB.out.size
    have hOl := HLe.out i
    have HBW := hid (Below.step' HB1.out HB.out)
    by_cases hlt : i < M1.length
    · obtain ⟨b, off, rfl, hb, e0, e1⟩ := (HR.out.1.step HBW.out).it hlt
      obtain ⟨xl, xll⟩ := (HR.out.2.step HBW.out) M1[i] (List.getElem_mem hlt)
      have HFI := hid (HF.out i hlt)
      generalize M1[i] = x at *
      obtain ⟨xr, xA, xk, xn⟩ := x
      simp only at e0 e1 xl xll HFI
      clear xl
      have hneb : (b = wr.heap.size) = False := by simp; omega
      obtain ⟨O, hO⟩ : ∃ O, O = distM (M1.take i) := ⟨_, rfl⟩
      rw [← hO] at HOWN HFI hOl ⊢
      clear hO
      obtain ⟨wo, rfl⟩ : ∃ wx : World, wx = wr := ⟨_, rfl⟩
      have HXO := hid (HX.out.step HB.out)
      obtain ⟨W2, hW2⟩ : ∃ W2 : World, W2 = wo.alloc (.cells #[.slice xA xr.length xk, .int .i64 xn] 67) := ⟨_, rfl⟩
      have HX2 := hid (show Blk W2 wo.heap.size #[.slice xA xr.length xk, .int .i64 xn] 67 by rw [hW2]; exact Blk.new _ _ _)
      have HBO := hid (show Below wo.heap.size wo W2 by rw [hW2]; exact alloc_below (Below.refl _ _) _)
      have HO2 := hid (show W2.ownsRow W1.heap.size 67 2 (.slice A5 O.length c5) O.length (rcells O) by rw [hW2]; exact HOWN.out.alloc _)
      replace HXO := hid (HXO.out.step HBO.out)
      go_upto_region 7 with fail
      rw [← hW2]
      clear hW2 e0 e1
      obtain ⟨cHXO, fHXO, sHXO, nHXO⟩ := HXO.out.all
      try simp only [cbox] at cHXO
      obtain ⟨cHX2, fHX2, sHX2, nHX2⟩ := HX2.out.all
      try simp only [cbox] at cHX2
      by_cases q : 0 < xn
      · have t1 : (0 < xn) = True := eq_true q
        rw [if_pos q] at HFI
        clear q
        -- STOP-d
        go_wp2_with (at_builtin; refine wpList_append_row elem_item rfl _ _ rfl W1.heap.size _ _ _ rfl (HO2.out.alloc _) (some ⟨W2.heap.size, 0, none⟩) 1 1 (W2.heap.size + 1) [.slice xA xr.length xk, .int .i64 1] rfl rfl (by exact Row.new' W2 _ _ rfl rfl (Nat.lt_succ_self _)) (two_oneC _ _ _ _) ?_ ?_ ?_ ?_; rotate_right; intro v7 w7 hown7 hg7 hif7; rotate_left; (simp only [maxLen]; omega); (omega); (have := HBO.out.size; simp; omega))
        have HOW7 := hid hown7
        have HG7 := hid hg7
        clear hown7 hg7 hif7
        go_roundw
        case rel =>
          refine ⟨i + 1, by omega, by go_num, by first | rfl | trivial, hid ?_, hid (Below.grown (alloc_below (HB.out.trans (HBO.out.mono hsw)) _) HG7.out (by have := HBO.out.size; simp; omega) (fun g e => (HO2.out.lt g e).1))⟩
          rw [HFI.out, rcells_app, List.length_append]
          simpa using HOW7.out
        case measure => simp [intOf]; omega
      · have t1 : (0 < xn) = False := eq_false q
        rw [if_neg q] at HFI
        clear q
        go_wp2_with fail
        go_roundw
        case rel =>
          refine ⟨i + 1, by omega, by go_num, by first | rfl | trivial, hid ?_, hid (HB.out.trans (HBO.out.mono hsw))⟩
          rw [HFI.out, List.append_nil]
          exact HO2.out
        case measure => simp [intOf]; omega
    · have hik : i = M1.length := by omega
      subst hik
      rw [List.take_length] at HOWN ⊢
      have HXE := hid (HX.out.step HB.out)
      obtain ⟨cHXE, fHXE, sHXE, nHXE⟩ := HXE.out.all
      try simp only [cbox] at cHXE
      go_wp2_with (go_at_call 81; refine (HON.out _).mono ?_; rintro e w2 ⟨AK, kK, rfl, hb2⟩; have HBK := hid hb2)
      -- STOP-e7
      go_wp2_with fail
      go_loopw [7, 15] (fun s7 s15 wx => s7 = .slice A5 (distM M1).length c5 ∧ s15 = .int .i64 0 ∧ wx = w2) (fun _ _ _ => 0)
      case atStart => exact ⟨rfl, rfl, rfl⟩
      case round =>
        obtain ⟨rfl, rfl, rfl⟩ := hrel
        go_wp2_with fail
        go_ret
        refine ⟨A5, c5, distM M1, rfl, HIT.out, ⟨Row.of_ownS (own_laterS HOWN.out HBK.out), (distM_rows (HR.out.2.step HBW.out)).step HBK.out⟩, Below.step' HBW.out HBK.out⟩

set_option maxHeartbeats 1000000 in
set_option maxRecDepth 100000 in
theorem made_k5 (sa sb sc so sv : Int) (sl : List Int) (sA : Option Addr) (sK : Nat) (M1 M2 : List IR) (A1 A2 : Option Addr) (c1 c2 : Nat) (w : World) (hr : RowI w w.heap.size A1 M1) (hl : M1.length ≤ 800) (h2 : RowI w w.heap.size A2 M2) (l2 : M2.length ≤ 800) :
    Calls Tryz.prog 57 #[.agg #[.int .i64 5, .int .i64 sa, .int .i64 sb, .int .i64 sc, .int .i64 so, .int .i64 sv, .slice sA sl.length sK], .slice A1 M1.length c1, .slice A2 M2.length c2] w (LiPost (its M1 ++ its M2) w) := by
  have HR := hid hr
  have HR2 := hid h2
  have HF := hid (fun i (hi : i < M1.length) => List.take_succ_eq_append_getElem hi)
  have HLe := hid (fun i => List.length_take_le i M1)
  clear hr h2
  have HON := hid (fun w1 => once_nil w1)
  obtain ⟨W1, hW1⟩ : ∃ W1 : World, W1 = w.alloc (.cells #[.int .i64 5, .int .i64 sa, .int .i64 sb, .int .i64 sc, .int .i64 so, .int .i64 sv, .slice sA sl.length sK] 89) := ⟨_, rfl⟩
  have HX := hid (show Blk W1 w.heap.size #[.int .i64 5, .int .i64 sa, .int .i64 sb, .int .i64 sc, .int .i64 so, .int .i64 sv, .slice sA sl.length sK] 89 by rw [hW1]; exact Blk.new _ _ _)
  have HB1 := hid (show Below w.heap.size w W1 by rw [hW1]; (repeat' (first | (with_reducible exact Below.refl _ _) | (with_reducible assumption) | (with_reducible refine below_drewN ?_ _) | (with_reducible refine Below.drew ?_) | (with_reducible refine Below.alloc ?_ ?_ _) | (with_reducible refine Below.setCell ?_ ?_ _) | (refine Below.trans ?_ (Below.mono (by assumption) ?_)) | go_size)))
  have hs1 := HB1.out.size
  go_enter Tryz.func57, Tryz.ntmps57
  go_wp2_with fail
  rw [← hW1]
  clear hW1
  go_loopw [7, 8, 9] (fun s7 s8 s9 wr => ∃ i : Nat, i ≤ M1.length ∧ s9 = .int .i64 i ∧ s8 = .slice none 0 0 ∧ Hid (wr.ownsRow W1.heap.size 67 2 s7 ((M1.take i)).length (rcells ((M1.take i)))) ∧ Hid (Below W1.heap.size W1 wr)) (fun _ _ s9 _ => M1.length - (intOf s9).toNat)
  case atStart => exact ⟨0, by omega, rfl, rfl, hid (by exact World.ownsRow_nil _ _ _ _), hid (Below.refl _ _)⟩
  case round =>
    obtain ⟨i, hi, rfl, rfl, HOWN, HB⟩ := hrel
    obtain ⟨A5, c5, rfl⟩ := own_formS HOWN.out
    have hsw := HB.out.size
    have hOl := HLe.out i
    have HBW := hid (Below.step' HB1.out HB.out)
    by_cases hlt : i < M1.length
    · obtain ⟨b, off, rfl, hb, e0, e1⟩ := (HR.out.1.step HBW.out).it hlt
      obtain ⟨xl, xll⟩ := (HR.out.2.step HBW.out) M1[i] (List.getElem_mem hlt)
      have HFI := hid (HF.out i hlt)
      generalize M1[i] = x at *
      obtain ⟨xr, xA, xk, xn⟩ := x
      simp only at e0 e1 xl xll HFI
      clear xl
      have hneb : (b = wr.heap.size) = False := by simp; omega
      obtain ⟨O, hO⟩ : ∃ O, O = (M1.take i) := ⟨_, rfl⟩
      rw [← hO] at HOWN HFI hOl ⊢
      clear hO
      obtain ⟨wo, rfl⟩ : ∃ wx : World, wx = wr := ⟨_, rfl⟩
      have HXO := hid (HX.out.step HB.out)
      obtain ⟨W2, hW2⟩ : ∃ W2 : World, W2 = wo.alloc (.cells #[.slice xA xr.length xk, .int .i64 xn] 67) := ⟨_, rfl⟩
      have HX2 := hid (show Blk W2 wo.heap.size #[.slice xA xr.length xk, .int .i64 xn] 67 by rw [hW2]; exact Blk.new _ _ _)
      have HBO := hid (show Below wo.heap.size wo W2 by rw [hW2]; exact alloc_below (Below.refl _ _) _)
      have HO2 := hid (show W2.ownsRow W1.heap.size 67 2 (.slice A5 O.length c5) O.length (rcells O) by rw [hW2]; exact HOWN.out.alloc _)
      replace HXO := hid (HXO.out.step HBO.out)
      go_upto_region 7 with fail
      rw [← hW2]
      clear hW2 e0 e1
      obtain ⟨cHXO, fHXO, sHXO, nHXO⟩ := HXO.out.all
      try simp only [cbox] at cHXO
      obtain ⟨cHX2, fHX2, sHX2, nHX2⟩ := HX2.out.all
      try simp only [cbox] at cHX2
      -- STOP-u5
      go_wp2_with (at_builtin; refine wpList_append_row elem_item rfl _ _ rfl W1.heap.size _ _ _ rfl (HO2.out.alloc _) (some ⟨W2.heap.size, 0, none⟩) 1 1 (W2.heap.size + 1) [.slice xA xr.length xk, .int .i64 xn] rfl rfl (by exact Row.new' W2 _ _ rfl rfl (Nat.lt_succ_self _)) (two_oneC _ _ _ _) ?_ ?_ ?_ ?_; rotate_right; intro v7 w7 hown7 hg7 hif7; rotate_left; (simp only [maxLen]; omega); (omega); (have := HBO.out.size; simp; omega))
      have HOW7 := hid hown7
      have HG7 := hid hg7
      clear hown7 hg7 hif7
      go_roundw
      case rel =>
        refine ⟨i + 1, by omega, by go_num, by first | rfl | trivial, hid ?_, hid (Below.grown (alloc_below (HB.out.trans (HBO.out.mono hsw)) _) HG7.out (by have := HBO.out.size; simp; omega) (fun g e => (HO2.out.lt g e).1))⟩
        rw [HFI.out, rcells_app, List.length_append]
        simpa using HOW7.out
      case measure => simp [intOf]; omega
    · have hik : i = M1.length := by omega
      subst hik
      rw [List.take_length] at HOWN ⊢
      rw [List.take_length] at hOl
      have HXE := hid (HX.out.step HB.out)
      obtain ⟨cHXE, fHXE, sHXE, nHXE⟩ := HXE.out.all
      try simp only [cbox] at cHXE
      have hr2 := (HR2.out.1.step HBW.out)
      go_wp2_with (at_builtin; refine wpList_append_row elem_item rfl _ _ rfl W1.heap.size _ _ _ rfl HOWN.out A2 M2.length c2 wr.heap.size (rcells M2) (by first | rfl | exact rcells_len M2) (by first | rfl | exact rcells_len M2) hr2 (rcells_one M2) ?_ ?_ ?_ ?_; rotate_right; intro v7 w7 hown7 hg7 hif7; rotate_left; (simp only [maxLen]; omega); (omega); (omega))
      -- STOP-v5
      obtain ⟨A7, c7, rfl⟩ := own_formS hown7
      have HOW7 := hid hown7
      have hb7 : Below W1.heap.size W1 w7 := (HB.out).grown hg7 (by omega) (fun g e => ((HOWN.out).lt g e).1)
      have HB7 := hid (Below.step' HB1.out hb7)
      have HROWS := hid ((HR.out.2.step HB7.out).app (HR2.out.2.step HB7.out))
      clear hown7 hg7 hif7 hb7
      go_wp2_with (go_at_call 81; refine (HON.out _).mono ?_; rintro e w8 ⟨AK, kK, rfl, hb8⟩; have HBK := hid hb8)
      go_wp2_with fail
      go_loopw [7, 15] (fun s7 s15 wx => s7 = .slice A7 (M1.length + M2.length) c7 ∧ s15 = .int .i64 0 ∧ wx = w8) (fun _ _ _ => 0)
      case atStart => exact ⟨rfl, rfl, rfl⟩
      case round =>
        obtain ⟨rfl, rfl, rfl⟩ := hrel
        go_wp2_with fail
        go_ret
        refine ⟨A7, c7, M1 ++ M2, by rw [List.length_append]; rfl, List.map_append, ⟨?_, HROWS.out.step HBK.out⟩, Below.step' HB7.out HBK.out⟩
        rw [rcells_app]
        exact Row.of_ownS (own_laterS HOW7.out HBK.out)

set_option maxHeartbeats 1000000 in
set_option maxRecDepth 100000 in
theorem made_k6 (sa sb sc so sv : Int) (sl : List Int) (sA : Option Addr) (sK : Nat) (M1 M2 : List IR) (A1 A2 : Option Addr) (c1 c2 : Nat) (w : World) (hr : RowI w w.heap.size A1 M1) (hl : M1.length ≤ 800) (h2 : RowI w w.heap.size A2 M2) (hset : setI (its M2) = 0) :
    Calls Tryz.prog 57 #[.agg #[.int .i64 6, .int .i64 sa, .int .i64 sb, .int .i64 sc, .int .i64 so, .int .i64 sv, .slice sA sl.length sK], .slice A1 M1.length c1, .slice A2 M2.length c2] w (LiPost (its M1 ++ negL (its M2)) w) := by
  have HR := hid hr
  have HR2 := hid h2
  have HMI := hid (fun w1 (hb : Below w.heap.size w w1) => Rminus_map M2 A2 c2 w1 (h2.step hb) hset)
  have HF := hid (fun i (hi : i < M1.length) => List.take_succ_eq_append_getElem hi)
  have HLe := hid (fun i => List.length_take_le i M1)
  clear hr h2
  have HON := hid (fun w1 => once_nil w1)
  obtain ⟨W1, hW1⟩ : ∃ W1 : World, W1 = w.alloc (.cells #[.int .i64 6, .int .i64 sa, .int .i64 sb, .int .i64 sc, .int .i64 so, .int .i64 sv, .slice sA sl.length sK] 89) := ⟨_, rfl⟩
  have HX := hid (show Blk W1 w.heap.size #[.int .i64 6, .int .i64 sa, .int .i64 sb, .int .i64 sc, .int .i64 so, .int .i64 sv, .slice sA sl.length sK] 89 by rw [hW1]; exact Blk.new _ _ _)
  have HB1 := hid (show Below w.heap.size w W1 by rw [hW1]; (repeat' (first | (with_reducible exact Below.refl _ _) | (with_reducible assumption) | (with_reducible refine below_drewN ?_ _) | (with_reducible refine Below.drew ?_) | (with_reducible refine Below.alloc ?_ ?_ _) | (with_reducible refine Below.setCell ?_ ?_ _) | (refine Below.trans ?_ (Below.mono (by assumption) ?_)) | go_size)))
  have hs1 := HB1.out.size
  go_enter Tryz.func57, Tryz.ntmps57
  go_wp2_with fail
  rw [← hW1]
  clear hW1
  go_loopw [7, 8, 9] (fun s7 s8 s9 wr => ∃ i : Nat, i ≤ M1.length ∧ s9 = .int .i64 i ∧ s8 = .slice none 0 0 ∧ Hid (wr.ownsRow W1.heap.size 67 2 s7 ((M1.take i)).length (rcells ((M1.take i)))) ∧ Hid (Below W1.heap.size W1 wr)) (fun _ _ s9 _ => M1.length - (intOf s9).toNat)
  case atStart => exact ⟨0, by omega, rfl, rfl, hid (by exact World.ownsRow_nil _ _ _ _), hid (Below.refl _ _)⟩
  case round =>
    obtain ⟨i, hi, rfl, rfl, HOWN, HB⟩ := hrel
    obtain ⟨A5, c5, rfl⟩ := own_formS HOWN.out
    have hsw := HB.out.size
    have hOl := HLe.out i
    have HBW := hid (Below.step' HB1.out HB.out)
    by_cases hlt : i < M1.length
    · obtain ⟨b, off, rfl, hb, e0, e1⟩ := (HR.out.1.step HBW.out).it hlt
      obtain ⟨xl, xll⟩ := (HR.out.2.step HBW.out) M1[i] (List.getElem_mem hlt)
      have HFI := hid (HF.out i hlt)
      generalize M1[i] = x at *
      obtain ⟨xr, xA, xk, xn⟩ := x
      simp only at e0 e1 xl xll HFI
      clear xl
      have hneb : (b = wr.heap.size) = False := by simp; omega
      obtain ⟨O, hO⟩ : ∃ O, O = (M1.take i) := ⟨_, rfl⟩
      rw [← hO] at HOWN HFI hOl ⊢
      clear hO
      obtain ⟨wo, rfl⟩ : ∃ wx : World, wx = wr := ⟨_, rfl⟩
      have HXO := hid (HX.out.step HB.out)
      obtain ⟨W2, hW2⟩ : ∃ W2 : World, W2 = wo.alloc (.cells #[.slice xA xr.length xk, .int .i64 xn] 67) := ⟨_, rfl⟩
      have HX2 := hid (show Blk W2 wo.heap.size #[.slice xA xr.length xk, .int .i64 xn] 67 by rw [hW2]; exact Blk.new _ _ _)
      have HBO := hid (show Below wo.heap.size wo W2 by rw [hW2]; exact alloc_below (Below.refl _ _) _)
      have HO2 := hid (show W2.ownsRow W1.heap.size 67 2 (.slice A5 O.length c5) O.length (rcells O) by rw [hW2]; exact HOWN.out.alloc _)
      replace HXO := hid (HXO.out.step HBO.out)
      go_upto_region 7 with fail
      rw [← hW2]
      clear hW2 e0 e1
      obtain ⟨cHXO, fHXO, sHXO, nHXO⟩ := HXO.out.all
      try simp only [cbox] at cHXO
      obtain ⟨cHX2, fHX2, sHX2, nHX2⟩ := HX2.out.all
      try simp only [cbox] at cHX2
      -- STOP-u6
      go_wp2_with (at_builtin; refine wpList_append_row elem_item rfl _ _ rfl W1.heap.size _ _ _ rfl (HO2.out.alloc _) (some ⟨W2.heap.size, 0, none⟩) 1 1 (W2.heap.size + 1) [.slice xA xr.length xk, .int .i64 xn] rfl rfl (by exact Row.new' W2 _ _ rfl rfl (Nat.lt_succ_self _)) (two_oneC _ _ _ _) ?_ ?_ ?_ ?_; rotate_right; intro v7 w7 hown7 hg7 hif7; rotate_left; (simp only [maxLen]; omega); (omega); (have := HBO.out.size; simp; omega))
      have HOW7 := hid hown7
      have HG7 := hid hg7
      clear hown7 hg7 hif7
      go_roundw
      case rel =>
        refine ⟨i + 1, by omega, by go_num, by first | rfl | trivial, hid ?_, hid (Below.grown (alloc_below (HB.out.trans (HBO.out.mono hsw)) _) HG7.out (by have := HBO.out.size; simp; omega) (fun g e => (HO2.out.lt g e).1))⟩
        rw [HFI.out, rcells_app, List.length_append]
        simpa using HOW7.out
      case measure => simp [intOf]; omega
    · have hik : i = M1.length := by omega
      subst hik
      rw [List.take_length] at HOWN ⊢
      rw [List.take_length] at hOl
      have HXE := hid (HX.out.step HB.out)
      obtain ⟨cHXE, fHXE, sHXE, nHXE⟩ := HXE.out.all
      try simp only [cbox] at cHXE
      go_wp2_with fail
      -- STOP-x6
      refine (HMI.out _ HBW.out).mono ?_
      rintro e wm ⟨A3, k3, rfl, hr3, hl3, hb3⟩
      have HI3 := hid (its_negR M2)
      obtain ⟨M3, hM3⟩ : ∃ q, q = M2.map negR := ⟨_, rfl⟩
      have hl3' : M3.length ≤ 400 := by rw [hM3, List.length_map]; exact hl3
      have HM3 := hid hM3
      rw [← hM3] at hr3 HI3 ⊢
      clear hM3
      have HR3 := hid hr3
      have HB3 := hid hb3
      have hown3 := own_laterS HOWN.out hb3
      have hs3 := hb3.size
      clear hr3 hb3
      go_wp2_with (at_builtin; refine wpList_append_row elem_item rfl _ _ rfl W1.heap.size _ _ _ rfl hown3 A3 M3.length k3 wm.heap.size (rcells M3) (by first | rfl | exact rcells_len M3) (by first | rfl | exact rcells_len M3) HR3.out (rcells_one M3) ?_ ?_ ?_ ?_; rotate_right; intro v7 w7 hown7 hg7 hif7; rotate_left; (simp only [maxLen]; omega); (omega); (omega))
      -- STOP-v6
      obtain ⟨A7, c7, rfl⟩ := own_formS hown7
      have HOW7 := hid hown7
      have hb7 : Below W1.heap.size W1 w7 := (Below.step' HB.out HB3.out).grown hg7 (by omega) (fun g e => ((hown3).lt g e).1)
      have HB7 := hid (Below.step' HB1.out hb7)
      have HROWS := hid (show RowsAt w7 w7.heap.size (M1 ++ M3) by rw [HM3.out]; exact (HR.out.2.step HB7.out).app (HR2.out.2.step HB7.out).negR)
      clear hown7 hg7 hif7 hb7
      go_wp2_with (go_at_call 81; refine (HON.out _).mono ?_; rintro e w8 ⟨AK, kK, rfl, hb8⟩; have HBK := hid hb8)
      go_wp2_with fail
      go_loopw [7, 15] (fun s7 s15 wx => s7 = .slice A7 (M1.length + M3.length) c7 ∧ s15 = .int .i64 0 ∧ wx = w8) (fun _ _ _ => 0)
      case atStart => exact ⟨rfl, rfl, rfl⟩
      case round =>
        obtain ⟨rfl, rfl, rfl⟩ := hrel
        go_wp2_with fail
        go_ret
        refine ⟨A7, c7, M1 ++ M3, by rw [List.length_append]; rfl, by rw [its, List.map_append]; show its M1 ++ its M3 = _; rw [HI3.out], ⟨?_, HROWS.out.step HBK.out⟩, Below.step' HB7.out HBK.out⟩
        rw [rcells_app]
        exact Row.of_ownS (own_laterS HOW7.out HBK.out)
end Go.Proofs.YtldlmkfigjicgaaGreatDoor
/- viewref.made: pick. -/
namespace Go.Proofs.YtldlmkfigjicgaaGreatDoor
set_option linter.unusedVariables false
set_option linter.unusedSimpArgs false
open Go.ChangeShapes Go.WideShapes Go.ChangeAt Go.RowKit

set_option maxHeartbeats 1000000 in
set_option maxRecDepth 100000 in
theorem made_k3 (sa sb sc so sv : Int) (sl : List Int) (sA : Option Addr) (sK : Nat) (M1 M2 : List IR) (A1 A2 : Option Addr) (c1 c2 : Nat) (w : World) (hr : RowI w w.heap.size A1 M1) (hl : M1.length ≤ 800) (hs : Row w w.heap.size sA (icells' sl)) (hxl : sl.length ≤ 8) (hc : ∀ n ∈ sl, 0 ≤ n ∧ ∀ y ∈ M1, n < (y.row.length : Int)) :
    Calls Tryz.prog 57 #[.agg #[.int .i64 3, .int .i64 sa, .int .i64 sb, .int .i64 sc, .int .i64 so, .int .i64 sv, .slice sA sl.length sK], .slice A1 M1.length c1, .slice A2 M2.length c2] w (LiPost (pickL ⟨3, sa, sb, sc, so, sv, sl⟩ (its M1)) w) := by
  have HR := hid hr
  have HC := hid hc
  have HSL := hid hs
  have HP := hid (show pickL ⟨3, sa, sb, sc, so, sv, sl⟩ (its M1) = (its M1).map (fun x => (pickN sl x.1 sl.length, x.2)) by
    unfold pickL pickR pickN
    rw [List.take_length])
  obtain ⟨X, hX⟩ : ∃ X, X = pickL ⟨3, sa, sb, sc, so, sv, sl⟩ (its M1) := ⟨_, rfl⟩
  rw [← hX] at HP ⊢
  clear hX hr hc hs
  have HON := hid (fun w1 => once_nil w1)
  obtain ⟨W1, hW1⟩ : ∃ W1 : World, W1 = w.alloc (.cells #[.int .i64 3, .int .i64 sa, .int .i64 sb, .int .i64 sc, .int .i64 so, .int .i64 sv, .slice sA sl.length sK] 89) := ⟨_, rfl⟩
  have HX := hid (show Blk W1 w.heap.size #[.int .i64 3, .int .i64 sa, .int .i64 sb, .int .i64 sc, .int .i64 so, .int .i64 sv, .slice sA sl.length sK] 89 by rw [hW1]; exact Blk.new _ _ _)
  have HB1 := hid (show Below w.heap.size w W1 by rw [hW1]; (repeat' (first | (with_reducible exact Below.refl _ _) | (with_reducible assumption) | (with_reducible refine below_drewN ?_ _) | (with_reducible refine Below.drew ?_) | (with_reducible refine Below.alloc ?_ ?_ _) | (with_reducible refine Below.setCell ?_ ?_ _) | (refine Below.trans ?_ (Below.mono (by assumption) ?_)) | go_size)))
  have hs1 := HB1.out.size
  go_enter Tryz.func57, Tryz.ntmps57
  go_wp2_with fail
  rw [← hW1]
  clear hW1
  -- STOP-a
  go_loopw [7, 8, 9] (fun s7 s8 s9 wr => ∃ (i : Nat) (S : List IR), i ≤ M1.length ∧ s9 = .int .i64 i ∧ s8 = .slice none 0 0 ∧ S.length = i ∧ Hid (its S = (its (M1.take i)).map (fun x => (pickN sl x.1 sl.length, x.2))) ∧ Hid (wr.ownsRow W1.heap.size 67 2 s7 S.length (rcells S)) ∧ Hid (RowsNew wr W1.heap.size s7 S) ∧ Hid (Below W1.heap.size W1 wr)) (fun _ _ s9 _ => M1.length - (intOf s9).toNat)
  case atStart => exact ⟨0, [], by omega, rfl, rfl, by simp, hid (by simp [its]), hid (World.ownsRow_nil _ _ _ _), hid (RowsNew.nil _ _ _), hid (Below.refl _ _)⟩
  case round =>
    obtain ⟨i, S, hi, rfl, rfl, hSi, HIS, HOWN, HNEW, HB⟩ := hrel
    obtain ⟨A5, c5, rfl⟩ := own_formS HOWN.out
    have hsw := HB.out.size
    have HBW := hid (Below.step' HB1.out HB.out)
    have HSI := hid hSi
    have hSl : S.length ≤ 1048576 := by omega
    clear hSi
    by_cases hlt : i < M1.length
    · obtain ⟨b, off, rfl, hb, e0, e1⟩ := (HR.out.1.step HBW.out).it hlt
      have HXR := hid (((HR.out.2.step HBW.out) M1[i] (List.getElem_mem hlt)).1)
      have HCX := hid (fun n hn => (show 0 ≤ n ∧ n < (M1[i].row.length : Int) from ⟨(HC.out n hn).1, (HC.out n hn).2 M1[i] (List.getElem_mem hlt)⟩))
      have HST := hid (show (its (M1.take (i + 1))).map (fun x => (pickN sl x.1 sl.length, x.2)) = (its (M1.take i)).map (fun x => (pickN sl x.1 sl.length, x.2)) ++ [(pickN sl M1[i].row sl.length, M1[i].n)] by
        rw [List.take_succ_eq_append_getElem hlt, its, List.map_append, List.map_append]; rfl)
      generalize M1[i] = x at *
      obtain ⟨xr, xA, xk, xn⟩ := x
      simp only at e0 e1 HXR HCX HST
      have hneb : (b = wr.heap.size) = False := by simp; omega
      obtain ⟨wo, rfl⟩ : ∃ wx : World, wx = wr := ⟨_, rfl⟩
      obtain ⟨W2, hW2⟩ : ∃ W2 : World, W2 = wo.alloc (.cells #[.slice xA xr.length xk, .int .i64 xn] 67) := ⟨_, rfl⟩
      have HX2 := hid (show Blk W2 wo.heap.size #[.slice xA xr.length xk, .int .i64 xn] 67 by rw [hW2]; exact Blk.new _ _ _)
      have HBO := hid (show Below wo.heap.size wo W2 by rw [hW2]; exact alloc_below (Below.refl _ _) _)
      have hs2 := HBO.out.size
      have HXO := hid ((HX.out.step HB.out).step HBO.out)
      go_upto_region 7 with fail
      rw [← hW2]
      clear hW2 e0 e1
      obtain ⟨cHXO, fHXO, sHXO, nHXO⟩ := HXO.out.all
      try simp only [cbox] at cHXO
      go_wp2_with fail
      clear cHXO fHXO sHXO nHXO
      -- STOP-b
      go_loopw [12, 13] (fun s12 s13 wr => ∃ j : Nat, j ≤ sl.length ∧ s13 = .int .i64 j ∧ Hid (wr.ownsRow W2.heap.size 3 1 s12 (pickN sl xr j).length (icells' (pickN sl xr j))) ∧ Hid (Below W2.heap.size W2 wr)) (fun _ s13 _ => sl.length - (intOf s13).toNat)
      case atStart => exact ⟨0, by omega, rfl, hid (by simpa [pickN] using World.ownsRow_nil _ _ _ _), hid (Below.refl _ _)⟩
      case round =>
        obtain ⟨j, hj, rfl, HR8, HBI⟩ := hrel
        obtain ⟨wi, rfl⟩ : ∃ wx : World, wx = wr := ⟨_, rfl⟩
        obtain ⟨A8, c8, rfl⟩ := own_formS HR8.out
        have hsi := HBI.out.size
        have hPl := pickN_len sl xr j hj
        have HX2I := hid (HX2.out.step HBI.out)
        have HXOI := hid (HXO.out.step HBI.out)
        by_cases hjl : j < sl.length
        · have HBT := hid (Below.step' HBW.out (Below.step' HBO.out HBI.out))
          have t1 : ((j : Int) < (sl.length : Int)) = True := eq_true (by omega)
          obtain ⟨bs', os', rfl, hbs, hvs⟩ := (HSL.out.step HBT.out).int' hjl
          obtain ⟨n0, n1⟩ := HCX.out sl[j] (List.getElem_mem hjl)
          have HPS := hid (pickN_succ sl xr j hjl)
          generalize sl[j] = n at *
          obtain ⟨jn, rfl⟩ : ∃ jn : Nat, n = (jn : Int) := ⟨n.toNat, by omega⟩
          have hjn : jn < xr.length := by omega
          obtain ⟨bx, ox, rfl, hbx, hvx⟩ := (HXR.out.step (Below.step' HBO.out HBI.out)).int' hjn
          have hcd : colD xr jn = xr[jn] := by unfold colD; rw [Int.toNat_natCast, List.getD_eq_getElem?_getD, List.getElem?_eq_getElem hjn]; rfl
          rw [hcd] at HPS
          generalize xr[jn] = u at *
          have hjl2 : (jn : Int) < (xr.length : Int) := by omega
          obtain ⟨P, hP⟩ : ∃ P, P = pickN sl xr j := ⟨_, rfl⟩
          rw [← hP] at HR8 HPS hPl ⊢
          have hPle : P.length ≤ 8 := by omega
          clear hcd hP hPl n0 n1
          have hal : Below wi.heap.size wi (wi.alloc (.cells #[.int .i64 u] 3)).drew := Below.drew (alloc_below (Below.refl _ _) _)
          have howA : (wi.alloc (.cells #[.int .i64 u] 3)).drew.ownsRow W2.heap.size 3 1 (.slice A8 P.length c8) P.length (icells' P) := own_laterS HR8.out hal
          have rdA : Row (wi.alloc (.cells #[.int .i64 u] 3)).drew (wi.heap.size + 1) (some ⟨wi.heap.size, 0, none⟩) (icells' [u]) := Row.drew (Row.new' wi _ _ rfl rfl (Nat.lt_succ_self _))
          have hsA : W2.heap.size ≤ (wi.alloc (.cells #[.int .i64 u] 3)).drew.heap.size := Nat.le_trans hsi hal.size
          have hmx : P.length + 1 ≤ maxLen := by simp only [maxLen]; omega
          have hby : (P.length + 1) * 8 ≤ 140737488355328 := by omega
          obtain ⟨cHX2I, fHX2I, sHX2I, nHX2I⟩ := HX2I.out.all
          try simp only [cbox] at cHX2I
          obtain ⟨cHXOI, fHXOI, sHXOI, nHXOI⟩ := HXOI.out.all
          try simp only [cbox] at cHXOI
          go_wp2_with fail
          -- STOP-c
          go_region_law
            (first
              | (refine step_append_row elem_int (by rfl) _ _ (by rfl) W2.heap.size (.slice A8 P.length c8) P.length (icells' P) (by rfl) howA (some ⟨wi.heap.size, 0, none⟩) 1 1 (wi.heap.size + 1) (icells' [u]) (by rfl) (by rfl) rdA (icellsQ_one [u]) hmx hby hsA ?_; intro v6 w6 hown6 hg6 hif6))
          -- STOP-d
          all_goals
            go_wp2_with fail
            have HOW6 := hid hown6
            have HG6 := hid hg6
            clear hown6 hg6
            go_roundw
            case rel =>
              refine ⟨j + 1, by omega, by go_num, hid ?_, hid (Below.grown (Below.step' HBI.out hal) HG6.out hsA (fun g e => (HR8.out.lt g e).1))⟩
              rw [HPS.out, icellsQ_snoc, List.length_append]
              simpa using HOW6.out
            case measure => simp [intOf]; omega
        · have hje : j = sl.length := by omega
          have t1 : ((j : Int) < (sl.length : Int)) = False := eq_false (by omega)
          subst hje
          have HOW8 := hid (own_laterS (HOWN.out) (Below.step' HBO.out HBI.out))
          have HNEW8 := hid (HNEW.out.step (Below.step' HBO.out HBI.out))
          obtain ⟨P, hP⟩ : ∃ P, P = pickN sl xr sl.length := ⟨_, rfl⟩
          rw [← hP] at HR8 HST hPl ⊢
          have hPle : P.length ≤ 8 := by omega
          have HPL := hid hPl
          clear hP hPl
          obtain ⟨cHX2I, fHX2I, sHX2I, nHX2I⟩ := HX2I.out.all
          try simp only [cbox] at cHX2I
          obtain ⟨cHXOI, fHXOI, sHXOI, nHXOI⟩ := HXOI.out.all
          try simp only [cbox] at cHXOI
          -- STOP-e
          go_wp2_with (at_builtin; refine wpList_append_row elem_item rfl _ _ rfl W1.heap.size _ _ _ rfl (HOW8.out.alloc _) (some ⟨wi.heap.size, 0, none⟩) 1 1 (wi.heap.size + 1) [.slice A8 P.length c8, .int .i64 xn] rfl rfl (Row.new' _ _ _ rfl rfl (Nat.lt_succ_self _)) (two_oneC _ _ _ _) ?_ ?_ ?_ ?_; rotate_right; intro v7 w7 hown7 hg7 hif7; rotate_left; (simp only [maxLen]; omega); (omega); (simp; omega))
          -- STOP-f
          clear cHX2I fHX2I sHX2I nHX2I
          clear cHXOI fHXOI sHXOI nHXOI
          have HNEW9 := hid ((HNEW8.out.step (alloc_below (Below.refl _ _) (.cells #[.slice A8 P.length c8, .int .i64 xn] 67))).grown hg7 hif7)
          have HROW9 := hid ((RowOwn.of_own HR8.out rfl).step (alloc_below (Below.refl _ _) (.cells #[.slice A8 P.length c8, .int .i64 xn] 67)))
          have HIN : Hid (∀ b off q, A8 = some ⟨b, off, q⟩ → W2.heap.size ≤ b ∧ b < wi.heap.size) := hid (fun b off q e => HR8.out.lt b (by rw [e]; rfl))
          have hA8 : ∀ b off q, A8 = some ⟨b, off, q⟩ → some b ≠ (Value.slice A5 S.length c5).ownBlock := fun b off q e e2 => by
            have q1 := (HIN.out b off q e).1
            have q2 := (HOWN.out.lt b e2.symm).2
            omega
          have HA8 := hid hA8
          have HIF := hid hif7
          have HG7 := hid hg7
          have HOWN9 := hid hown7
          clear hown7 hg7 hif7 hA8
          go_roundw
          case rel =>
            have hr9 := (HROW9.out.grown_ne (Nat.le_refl _) HG7.out HA8.out).more HG7.out.size
            refine ⟨i + 1, S ++ [⟨P, A8, c8, xn⟩], by omega, by go_num, by first | rfl | trivial, by have := HSI.out; simp; omega, hid ?_, hid ?_, hid ?_, hid (((HB.out.trans ((Below.step' HBO.out HBI.out).mono hsw)).alloc (by omega) (.cells #[.slice A8 P.length c8, .int .i64 xn] 67)).grown HG7.out (by simp; omega) (fun g e => (HOW8.out.lt g e).1))⟩
            · rw [HST.out, ← HIS.out]
              show (S ++ [(⟨P, A8, c8, xn⟩ : IR)]).map IR.it = _
              rw [List.map_append]; rfl
            · rw [rcells_snoc, List.length_append]
              exact HOWN9.out
            · refine RowsNew.snoc HNEW9.out (x := (⟨P, A8, c8, xn⟩ : IR)) hr9 (fun b off q e => by have := (HIN.out b off q e).1; omega) (fun b off q e => ?_) (by simp only; omega)
              have hlt9 := (HIN.out b off q e).2
              have hsz7 := HG7.out.size
              simp at hsz7
              refine ⟨?_, by omega⟩
              rcases HIF.out with h | h
              · rw [h]; exact HA8.out b off q e
              · rw [h]; intro e2; injection e2 with e2; simp at e2; omega
          case measure => simp [intOf]; omega
    · have hik : i = M1.length := by omega
      subst hik
      rw [List.take_length] at HIS
      have HXE := hid (HX.out.step HB.out)
      obtain ⟨cHXE, fHXE, sHXE, nHXE⟩ := HXE.out.all
      try simp only [cbox] at cHXE
      go_wp2_with (go_at_call 81; refine (HON.out _).mono ?_; rintro e w2 ⟨AK, kK, rfl, hb2⟩; have HBK := hid hb2)
      -- STOP-y
      go_wp2_with fail
      go_loopw [7, 15] (fun s7 s15 wx => s7 = .slice A5 S.length c5 ∧ s15 = .int .i64 0 ∧ wx = w2) (fun _ _ _ => 0)
      case atStart => exact ⟨rfl, rfl, rfl⟩
      case round =>
        obtain ⟨rfl, rfl, rfl⟩ := hrel
        go_wp2_with fail
        go_ret
        exact ⟨A5, c5, S, rfl, by rw [HIS.out, HP.out], ⟨Row.of_ownS (own_laterS HOWN.out HBK.out), (HNEW.out.step HBK.out).rows⟩, Below.step' HBW.out HBK.out⟩
end Go.Proofs.YtldlmkfigjicgaaGreatDoor
