/- RsB -/
import Derived.Test.YtldlmkfigjicgaaGreatDoorCk04
import Derived.Test.YtldlmkfigjicgaaGreatDoorCk14
/- viewref.Made, Norm, Add. -/
namespace Go.Proofs.YtldlmkfigjicgaaGreatDoor
set_option linter.unusedVariables false
set_option linter.unusedSimpArgs false
open Go.ChangeShapes Go.WideShapes Go.ChangeAt Go.RowKit

theorem own_len1 {w : World} {B n c s : Nat} {T : TypeId} {A : Option Addr} {xs : List Value} (h : w.ownsRow B T s (.slice A n c) n xs) : n ≤ 9223372036854775807 := by
  rcases h.2 with ⟨e, h0⟩ | ⟨g, cap, cur, e, hb, hg, hnc, hcm, -⟩
  · omega
  · simp only [maxLen] at hcm
    omega
theorem badB_parts (r : List Int) (n : Int) : badB (r, n) = (!rowB r || farB n) := rfl
theorem any_at {M : List IR} {i : Nat} (h : i < M.length) (hb : badB M[i].it = true) : (its M).any badB = true :=
  List.any_eq_true.2 ⟨M[i].it, List.mem_map.2 ⟨_, List.getElem_mem h, rfl⟩, hb⟩
theorem any_none {M : List IR} (h : ∀ j, (hj : j < M.length) → badB M[j].it = false) : (its M).any badB = false := by
  rw [List.any_eq_false]
  intro x hx
  obtain ⟨y, hy, rfl⟩ := List.mem_map.1 hx
  obtain ⟨j, hj, rfl⟩ := List.mem_iff_getElem.1 hy
  rw [h j hj]; simp
theorem tot_of_ok {M : List IR} (hl : M.length ≤ 4194304) (h : ∀ x ∈ its M, badB x = false) : TotOk M := by
  have hx : ∀ x ∈ M, x.row.length ≤ 8 ∧ ∀ n ∈ x.row, -1073741824 ≤ n ∧ n ≤ 1073741824 := fun x hx => by
    have hb := h x.it (List.mem_map.2 ⟨x, hx, rfl⟩)
    rw [show x.it = (x.row, x.n) from rfl, badB_parts, Bool.or_eq_false_iff, Bool.not_eq_false'] at hb
    have h1 := hb.1
    unfold rowB at h1
    rw [Bool.and_eq_true, Bool.not_eq_true', List.any_eq_false] at h1
    refine ⟨of_decide_eq_true h1.1, fun n hn => ?_⟩
    have h3 := h1.2 n hn
    unfold outB at h3
    rw [Bool.not_eq_true, Bool.or_eq_false_iff] at h3
    have e1 := of_decide_eq_false h3.1
    have e2 := of_decide_eq_false h3.2
    omega
  exact ⟨hl, fun x q => by have := (hx x q).1; omega, fun x q n hn => by have := (hx x q).2 n hn; omega⟩
set_option maxHeartbeats 4000000 in
set_option maxRecDepth 100000 in
theorem Rmade_any (M : List IR) (A : Option Addr) (c : Nat) (w : World) (hr : RowI w w.heap.size A M) (hok : TotOk M) (ht : Pow w) :
    Calls Tryz.prog 39 #[.slice A M.length c] w (ItsErr (doneX (sumL (its M))) (doneE (sumL (its M))) w) := by
  have HTO := hid (total_any M A c w hr hok ht)
  clear hr hok ht
  obtain ⟨T, hT⟩ : ∃ T, T = sumL (its M) := ⟨_, rfl⟩
  rw [← hT] at HTO ⊢
  clear hT
  go_enter Tryz.func39, Tryz.ntmps39
  go_wp2_with fail
  refine HTO.out.mono ?_
  rintro e w1 ⟨A1, k1, M1, rfl, hi1, ho1, hn1, hb1⟩
  subst hi1
  have HO := hid ho1
  have HNW := hid hn1
  have HB1 := hid hb1
  have HR := hid (show RowI w1 w1.heap.size A1 M1 from ⟨Row.of_ownS ho1, hn1.rows⟩)
  have hl1 := own_len1 ho1
  clear ho1 hn1 hb1 HTO
  go_wp2_with fail
  -- STOP-a
  go_loopw [4] (fun s4 wr => ∃ i : Nat, i ≤ M1.length ∧ s4 = .int .i64 i ∧ Hid (∀ j, (hj : j < M1.length) → j < i → badB M1[j].it = false) ∧ Hid (Below w1.heap.size w1 wr)) (fun s4 _ => M1.length - (intOf s4).toNat)
  case atStart => exact ⟨0, by omega, rfl, hid (fun j _ h => by omega), hid (Below.refl _ _)⟩
  case round =>
    obtain ⟨i, hi, rfl, HNO, HB⟩ := hrel
    obtain ⟨W, rfl⟩ : ∃ wx : World, wx = wr := ⟨_, rfl⟩
    by_cases hlt : i < M1.length
    · have t1 : ((i : Int) < (M1.length : Int)) = True := eq_true (by omega)
      have HRR := hid (HR.out.step HB.out)
      obtain ⟨b, off, rfl, hb, h0, h1⟩ := HRR.out.1.it hlt
      have hrw := HRR.out.2 _ (List.getElem_mem hlt)
      have HBD := hid (show badB M1[i].it = (!rowB M1[i].row || farB M1[i].n) from rfl)
      have HAN := hid (fun h : badB M1[i].it = true => any_at hlt h)
      have HXX := hid (show ∃ x, x = M1[i] from ⟨_, rfl⟩)
      have HROW := hid (Rrow_any M1[i].row M1[i].A M1[i].k W hrw.1 hrw.2)
      have HFAR := hid (fun w1 => show Calls Tryz.prog 38 #[.int .i64 M1[i].n, .int .i64 (-1048576), .int .i64 1048576] w1 fun e w' => e = .returned (.bool (!farB M1[i].n)) ∧ w1 = w' from by rw [← inB_far]; exact in_any _ _ _ w1)
      obtain ⟨bx, hbx⟩ : ∃ q, q = badB M1[i].it := ⟨_, rfl⟩
      have HBX := hid hbx
      rw [← hbx] at HBD HAN
      clear hbx hrw HXX
      generalize M1[i].row = xr at *
      generalize M1[i].A = xA at *
      generalize M1[i].k = xk at *
      generalize M1[i].n = xn at *
      generalize rowB xr = rb at *
      generalize farB xn = fb at *
      have HFIN : Hid (bx = true → doneE (its M1) = 5 ∧ doneX (its M1) = []) := hid fun h => by
        have e : doneE (its M1) = 5 := by unfold doneE; rw [if_pos (HAN.out h)]
        exact ⟨e, by unfold doneX; rw [if_neg (by rw [e]; decide)]⟩
      cases rb
      · obtain ⟨f1, f2⟩ := HFIN.out HBD.out
        have F1 := hid f1
        have F2 := hid f2
        clear HAN f1 f2
        go_wp2_with (go_at_call 37; refine HROW.out.mono ?_; rintro e w' ⟨rfl, rfl⟩)
        -- STOP-b
        go_ret2
        try rw [F1.out, F2.out]
        exact itsErr_nil (HB1.out.trans (HB.out.mono HB1.out.size))
      · cases fb
        · have hgd : bx = false := HBD.out
          rw [hgd] at HBX
          clear HAN HFIN hgd
          go_wp2_with (first | (go_at_call 37; refine HROW.out.mono ?_; rintro e w' ⟨rfl, rfl⟩) | (go_at_call 38; refine (HFAR.out _).mono ?_; rintro e w' ⟨rfl, rfl⟩))
          -- STOP-c
          go_roundw
          case rel =>
            refine ⟨i + 1, by omega, by go_num, hid (fun j hj h => ?_), HB⟩
            by_cases e : j = i
            · subst e; exact HBX.out.symm
            · exact HNO.out j hj (by omega)
          case measure => simp [intOf]; omega
        · obtain ⟨f1, f2⟩ := HFIN.out HBD.out
          have F1 := hid f1
          have F2 := hid f2
          clear HAN f1 f2
          go_wp2_with (first | (go_at_call 37; refine HROW.out.mono ?_; rintro e w' ⟨rfl, rfl⟩) | (go_at_call 38; refine (HFAR.out _).mono ?_; rintro e w' ⟨rfl, rfl⟩))
          -- STOP-d
          go_ret2
          try rw [F1.out, F2.out]
          exact itsErr_nil (HB1.out.trans (HB.out.mono HB1.out.size))
    · have t1 : ((i : Int) < (M1.length : Int)) = False := eq_false (by omega)
      have hany : (its M1).any badB = false := any_none fun j hj => HNO.out j hj (by omega)
      by_cases h4 : 400 < M1.length
      · have t2 : ((400 : Int) < (M1.length : Int)) = True := eq_true (by omega)
        have f1 : doneE (its M1) = 2 := by unfold doneE; rw [hany, if_neg (by simp), if_pos (by rw [its_len]; exact h4)]
        have f2 : doneX (its M1) = [] := by unfold doneX; rw [if_neg (by rw [f1]; decide)]
        have F1 := hid f1
        have F2 := hid f2
        clear f1 f2 hany h4
        go_wp2_with fail
        -- STOP-e
        go_ret2
        try rw [F1.out, F2.out]
        exact itsErr_nil (HB1.out.trans (HB.out.mono HB1.out.size))
      · have t2 : ((400 : Int) < (M1.length : Int)) = False := eq_false (by omega)
        have f1 : doneE (its M1) = 0 := by unfold doneE; rw [hany, if_neg (by simp), if_neg (by rw [its_len]; exact h4)]
        have f2 : doneX (its M1) = its M1 := by unfold doneX; rw [if_pos f1]
        have F1 := hid f1
        have F2 := hid f2
        clear f1 f2 hany h4
        go_wp2_with fail
        -- STOP-f
        go_ret2
        try rw [F1.out, F2.out]
        exact ⟨A1, k1, M1, rfl, rfl, own_laterS HO.out HB.out, HNW.out.step HB.out, HB1.out.trans (HB.out.mono HB1.out.size)⟩
theorem itsErr_then {S : List It} {x : Int} {w w1 : World} {e : Ending} {w' : World} (hb : Below w.heap.size w w1) (h : ItsErr S x w1 e w') : ItsErr S x w e w' := by
  obtain ⟨A, k, M, he, hi, ho, hn, hb1⟩ := h
  exact ⟨A, k, M, he, hi, own_baseS ho hb.size, fun x hx => ⟨(hn x hx).1, newAt_le (hn x hx).2.1 hb.size, (hn x hx).2.2⟩, hb.trans (hb1.mono hb.size)⟩
set_option maxHeartbeats 4000000 in
set_option maxRecDepth 100000 in
theorem Rnorm_any (M : List IR) (A : Option Addr) (c : Nat) (w : World) (hr : RowI w w.heap.size A M) (hl : M.length ≤ 9223372036854775807) (ht : Pow w) :
    Calls Tryz.prog 7 #[.slice A M.length c] w (ItsErr (normX (its M)) (normE (its M)) w) := by
  have HR := hid hr
  have HT := hid ht
  clear hr ht
  go_enter Tryz.func7, Tryz.ntmps7
  by_cases h4 : 400 < M.length
  · have t2 : ((400 : Int) < (M.length : Int)) = True := eq_true (by omega)
    have f1 : normE (its M) = 2 := by unfold normE; rw [if_pos (by rw [its_len]; exact h4)]
    have f2 : normX (its M) = [] := by unfold normX; rw [if_neg (by rw [f1]; decide)]
    have F1 := hid f1
    have F2 := hid f2
    clear f1 f2 h4
    go_wp2_with fail
    go_ret2
    try rw [F1.out, F2.out]
    exact itsErr_nil (Below.refl _ _)
  have t2 : ((400 : Int) < (M.length : Int)) = False := eq_false (by omega)
  go_wp2_with fail
  -- STOP-g
  go_loopw [4] (fun s4 wr => ∃ i : Nat, i ≤ M.length ∧ s4 = .int .i64 i ∧ Hid (∀ j, (hj : j < M.length) → j < i → badB M[j].it = false) ∧ Hid (Below w.heap.size w wr)) (fun s4 _ => M.length - (intOf s4).toNat)
  case atStart => exact ⟨0, by omega, rfl, hid (fun j _ h => by omega), hid (Below.refl _ _)⟩
  case round =>
    obtain ⟨i, hi, rfl, HNO, HB⟩ := hrel
    obtain ⟨W, rfl⟩ : ∃ wx : World, wx = wr := ⟨_, rfl⟩
    by_cases hlt : i < M.length
    · have t1 : ((i : Int) < (M.length : Int)) = True := eq_true (by omega)
      have HRR := hid (HR.out.step HB.out)
      obtain ⟨b, off, rfl, hb, h0, h1⟩ := HRR.out.1.it hlt
      have hrw := HRR.out.2 _ (List.getElem_mem hlt)
      have HBD := hid (show badB M[i].it = (!rowB M[i].row || farB M[i].n) from rfl)
      have HAN := hid (fun h : badB M[i].it = true => any_at hlt h)
      have HROW := hid (Rrow_any M[i].row M[i].A M[i].k W hrw.1 hrw.2)
      have HFAR := hid (fun w1 => show Calls Tryz.prog 38 #[.int .i64 M[i].n, .int .i64 (-1048576), .int .i64 1048576] w1 fun e w' => e = .returned (.bool (!farB M[i].n)) ∧ w1 = w' from by rw [← inB_far]; exact in_any _ _ _ w1)
      obtain ⟨bx, hbx⟩ : ∃ q, q = badB M[i].it := ⟨_, rfl⟩
      have HBX := hid hbx
      rw [← hbx] at HBD HAN
      clear hbx hrw
      generalize M[i].row = xr at *
      generalize M[i].A = xA at *
      generalize M[i].k = xk at *
      generalize M[i].n = xn at *
      generalize rowB xr = rb at *
      generalize farB xn = fb at *
      have HFIN : Hid (bx = true → normE (its M) = 5 ∧ normX (its M) = []) := hid fun h => by
        have e : normE (its M) = 5 := by unfold normE; rw [if_neg (by rw [its_len]; exact h4), if_pos (HAN.out h)]
        exact ⟨e, by unfold normX; rw [if_neg (by rw [e]; decide)]⟩
      cases rb
      · obtain ⟨f1, f2⟩ := HFIN.out HBD.out
        have F1 := hid f1
        have F2 := hid f2
        clear HAN f1 f2
        go_wp2_with (go_at_call 37; refine HROW.out.mono ?_; rintro e w' ⟨rfl, rfl⟩)
        go_ret2
        try rw [F1.out, F2.out]
        exact itsErr_nil HB.out
      · cases fb
        · have hgd : bx = false := HBD.out
          rw [hgd] at HBX
          clear HAN HFIN hgd
          go_wp2_with (first | (go_at_call 37; refine HROW.out.mono ?_; rintro e w' ⟨rfl, rfl⟩) | (go_at_call 38; refine (HFAR.out _).mono ?_; rintro e w' ⟨rfl, rfl⟩))
          go_roundw
          case rel =>
            refine ⟨i + 1, by omega, by go_num, hid (fun j hj h => ?_), HB⟩
            by_cases e : j = i
            · subst e; exact HBX.out.symm
            · exact HNO.out j hj (by omega)
          case measure => simp [intOf]; omega
        · obtain ⟨f1, f2⟩ := HFIN.out HBD.out
          have F1 := hid f1
          have F2 := hid f2
          clear HAN f1 f2
          go_wp2_with (first | (go_at_call 37; refine HROW.out.mono ?_; rintro e w' ⟨rfl, rfl⟩) | (go_at_call 38; refine (HFAR.out _).mono ?_; rintro e w' ⟨rfl, rfl⟩))
          go_ret2
          try rw [F1.out, F2.out]
          exact itsErr_nil HB.out
    · have t1 : ((i : Int) < (M.length : Int)) = False := eq_false (by omega)
      have hall : ∀ j, (hj : j < M.length) → badB M[j].it = false := fun j hj => HNO.out j hj (by omega)
      have hany : (its M).any badB = false := any_none hall
      have htok : TotOk M := tot_of_ok (by omega) fun x hx => by
        rw [List.any_eq_false] at hany
        have := hany x hx
        simpa using this
      have f1 : normE (its M) = doneE (sumL (its M)) := by unfold normE; rw [if_neg (by rw [its_len]; exact h4), hany, if_neg (by simp)]
      have f2 : normX (its M) = doneX (sumL (its M)) := by unfold normX doneX; rw [f1]
      have F1 := hid f1
      have F2 := hid f2
      have HMD := hid (Rmade_any M A c W (HR.out.step HB.out) htok (Pow.step HT.out HB.out))
      clear f1 f2 hany hall htok
      go_wp2_with fail
      -- STOP-h
      refine HMD.out.mono ?_
      rintro e w2 h2
      have HE := hid (itsErr_then HB.out h2)
      obtain ⟨A2, k2, M2, rfl, -⟩ := h2
      clear HMD
      go_wp2_with fail
      go_ret2
      try rw [F1.out, F2.out]
      exact HE.out
set_option maxHeartbeats 4000000 in
set_option maxRecDepth 100000 in
theorem Radd_any (M1 M2 : List IR) (A1 A2 : Option Addr) (c1 c2 : Nat) (w : World) (hr1 : RowI w w.heap.size A1 M1) (hl1 : M1.length ≤ 9223372036854775807) (hr2 : RowI w w.heap.size A2 M2) (hl2 : M2.length ≤ 9223372036854775807) (ht : Pow w) :
    Calls Tryz.prog 9 #[.slice A1 M1.length c1, .slice A2 M2.length c2] w (ItsErr (addX (its M1) (its M2)) (addE (its M1) (its M2)) w) := by
  have HS1 := hid (Rset_any M1 A1 c1 w hr1 hl1)
  have HS2 := hid (fun w1 (hb : Below w.heap.size w w1) => Rset_any M2 A2 c2 w1 (hr2.step hb) hl2)
  have HR1 := hid hr1
  have HR2 := hid hr2
  have HT := hid ht
  clear hr1 hr2 ht
  go_enter Tryz.func9, Tryz.ntmps9
  go_wp2_with fail
  refine HS1.out.mono ?_
  rintro e w1 ⟨rfl, hb1⟩
  have HB1 := hid hb1
  clear hb1 HS1
  by_cases h1 : setI (its M1) = 0
  rotate_left
  · have f1 : addE (its M1) (its M2) = setI (its M1) := by unfold addE; rw [if_pos h1]
    have f2 : addX (its M1) (its M2) = [] := by unfold addX; rw [if_neg (by rw [f1]; exact h1)]
    have F1 := hid f1
    have F2 := hid f2
    generalize setI (its M1) = E at *
    have t1 : (E != 0) = true := by simpa using h1
    clear f1 f2 h1
    go_wp2_with fail
    go_ret2
    try rw [F1.out, F2.out]
    exact itsErr_nil HB1.out
  have HZ1 := hid h1
  rw [h1]
  clear h1
  go_wp2_with fail
  refine (HS2.out w1 HB1.out).mono ?_
  rintro e w2 ⟨rfl, hb2⟩
  have HB2 := hid (Below.step' HB1.out hb2)
  clear hb2 HS2
  by_cases h2 : setI (its M2) = 0
  rotate_left
  · have f1 : addE (its M1) (its M2) = setI (its M2) := by unfold addE; rw [if_neg (by rw [HZ1.out]; simp), if_pos h2]
    have f2 : addX (its M1) (its M2) = [] := by unfold addX; rw [if_neg (by rw [f1]; exact h2)]
    have F1 := hid f1
    have F2 := hid f2
    generalize setI (its M2) = E at *
    have t1 : (E != 0) = true := by simpa using h2
    clear f1 f2 h2
    go_wp2_with fail
    go_ret2
    try rw [F1.out, F2.out]
    exact itsErr_nil HB2.out
  have HZ2 := hid h2
  rw [h2]
  clear h2
  have f1 : addE (its M1) (its M2) = doneE (sumL (its M1 ++ its M2)) := by unfold addE; rw [if_neg (by rw [HZ1.out]; simp), if_neg (by rw [HZ2.out]; simp)]
  have f2 : addX (its M1) (its M2) = doneX (sumL (its M1 ++ its M2)) := by unfold addX doneX; rw [f1]
  have F1 := hid f1
  have F2 := hid f2
  have hl1' : M1.length ≤ 400 := by have := (setI_zero.1 HZ1.out).1; rwa [its_len] at this
  have hl2' : M2.length ≤ 400 := by have := (setI_zero.1 HZ2.out).1; rwa [its_len] at this
  have HTOK := hid (tot_of_ok (M := M1 ++ M2) (by rw [List.length_append]; omega) (fun x hx => by
    rw [its, List.map_append] at hx
    rcases List.mem_append.1 hx with q | q
    · exact (setI_zero.1 HZ1.out).2.1 x q
    · exact (setI_zero.1 HZ2.out).2.1 x q))
  have hr1 := HR1.out.step HB2.out
  have hr2 := HR2.out.step HB2.out
  clear f1 f2
  go_upto_region 7 with fail
  go_wp2_with (first
    | (at_builtin; refine wpList_append_row elem_item rfl _ _ rfl w2.heap.size (.slice none 0 0) 0 [] rfl (World.ownsRow_nil _ _ _ _) A1 M1.length c1 w2.heap.size (rcells M1) rfl (rcells_len M1) hr1.1 (rcells_one M1) ?_ ?_ ?_ ?_; rotate_right; intro v7 w7 hown7 hg7 hif7; rw [Nat.zero_add, List.nil_append] at hown7; obtain ⟨A7, c7, rfl⟩ := own_formS hown7; have hb7 : Below w2.heap.size w2 w7 := (Below.refl _ _).grown hg7 (Nat.le_refl _) (fun g e => nomatch e); rotate_left; (simp only [maxLen]; omega); (omega); (omega))
    | (at_builtin; refine wpList_append_row elem_item rfl _ _ rfl w2.heap.size (.slice A7 M1.length c7) M1.length (rcells M1) rfl hown7 A2 M2.length c2 w7.heap.size (rcells M2) rfl (rcells_len M2) (hr2.step hb7).1 (rcells_one M2) ?_ ?_ ?_ ?_; rotate_right; intro v8 w8 hown8 hg8 hif8; obtain ⟨A8, c8, rfl⟩ := own_formS hown8; rotate_left; (simp only [maxLen]; omega); (omega); (exact hb7.size)))
  -- STOP-i
  have hb8 : Below w2.heap.size w2 w8 := hb7.grown hg8 hb7.size (fun g e => (hown7.lt g e).1)
  have HB8 := hid (Below.step' HB2.out hb8)
  have hmd := Rmade_any (M1 ++ M2) A8 c8 w8 ⟨by rw [rcells, List.flatMap_append]; exact Row.of_ownS hown8, RowsAt.app (hr1.step hb8).2 (hr2.step hb8).2⟩ HTOK.out (Pow.step HT.out HB8.out)
  rw [List.length_append, its, List.map_append] at hmd
  clear hown7 hg7 hif7 hown8 hg8 hif8 hb7 hb8 hr1 hr2
  refine hmd.mono ?_
  rintro e w9 h9
  have HE := hid (itsErr_then HB8.out h9)
  obtain ⟨A9, k9, M9, rfl, -⟩ := h9
  clear hmd
  go_wp2_with fail
  go_ret2
  try rw [F1.out, F2.out]
  exact HE.out
end Go.Proofs.YtldlmkfigjicgaaGreatDoor
