/- RkD, PnV, PnW, PnX -/
import Derived.Test.YtldlmkfigjicgaaDoorCk08
import Derived.Test.YtldlmkfigjicgaaDoorCk04
import Derived.Test.YtldlmkfigjicgaaDoorCk12
import Derived.Test.YtldlmkfigjicgaaDoorCk07
/- rank.Rows. -/
namespace Go.Proofs.YtldlmkfigjicgaaDoor
set_option linter.unusedVariables false
set_option linter.unusedSimpArgs false
open Go.ChangeShapes Go.WideShapes Go.ChangeAt Go.RowKit

/-- Rows as a list of slices of ints: the items' rows alone. -/
abbrev kcells (M : List IR) : List Value := M.flatMap fun x => [.slice x.A x.row.length x.k]
abbrev nrows (M : List IR) : List (List Int) := M.map IR.row
def RowsPost (S : List (List Int)) (x : Int) (w : World) (e : Ending) (w' : World) : Prop :=
  ∃ (A : Option Addr) (k : Nat) (M : List IR), e = .returned (.tuple #[.slice A M.length k, .int .i64 x]) ∧ nrows M = S ∧ w'.ownsRow w.heap.size 23 1 (.slice A M.length k) M.length (kcells M) ∧ RowsNew w' w.heap.size (.slice A M.length k) M ∧ Below w.heap.size w w'
theorem rowsPost_nil {S : List (List Int)} {w w' : World} {x y : Int} (hS : S = []) (hx : y = x) (hb : Below w.heap.size w w') : RowsPost S y w (.returned (.tuple #[.slice none 0 0, .int .i64 x])) w' := by
  subst hS hx; exact ⟨none, 0, [], rfl, rfl, World.ownsRow_nil _ _ _ _, RowsNew.nil _ _ _, hb⟩
theorem kcells_snoc (M : List IR) (x : IR) : kcells (M ++ [x]) = kcells M ++ [.slice x.A x.row.length x.k] := by rw [kcells, List.flatMap_append]; simp
theorem wid_le {l : List It} (h : setI l = 0) : widI l ≤ 8 := by
  cases l with
  | nil => decide
  | cons x l =>
    have := (badB_false ((setI_zero.1 h).2.1 x (by simp))).1
    unfold widI
    simp only
    split <;> omega
theorem expd_succ (L : List It) (i : Nat) (hi : i < L.length) : expd (L.take (i + 1)) = expd (L.take i) ++ List.replicate L[i].2.toNat L[i].1 := by
  unfold expd
  rw [List.take_succ_eq_append_getElem hi, List.flatMap_append]; simp
theorem expd_split (L : List It) (i : Nat) : expd L = expd (L.take i) ++ expd (L.drop i) := by
  unfold expd
  rw [← List.flatMap_append, List.take_append_drop]
theorem expd_drop (L : List It) (i : Nat) (hi : i < L.length) : expd (L.drop i) = List.replicate L[i].2.toNat L[i].1 ++ expd (L.drop (i + 1)) := by
  unfold expd
  rw [List.drop_eq_getElem_cons hi, List.flatMap_cons]
theorem elem_ints : Elem Tryd.prog 24 23 1 24 := ⟨Tryd.underlying24, by
  obtain ⟨i, hi, hz, hs, hb⟩ := info_parts (P := Tryd.prog) (e := 23) (z := .slice none 0 0) (size := 1) (bytes := 24) (by kernel_rfl)
  exact ⟨i, _, hi, hz, hs, hb, rfl⟩, by decide⟩

set_option maxHeartbeats 1000000 in
set_option maxRecDepth 100000 in
theorem rows_any (M : List IR) (A : Option Addr) (c : Nat) (bs : List Int) (bA : Option Addr) (bc : Nat) (most : Int) (w : World) (hr : RowI w w.heap.size A M) (hl : M.length ≤ 9223372036854775807) (hb : Row w w.heap.size bA (icells' bs)) (hbl : bs.length ≤ 9223372036854775807) :
    Calls Tryd.prog 5 #[.slice A M.length c, .slice bA bs.length bc, .int .i64 most] w (RowsPost (rankX (its M) bs most) (rankE (its M) bs most) w) := by
  have HCK := hid (zcheck_any M A c w hr hl)
  have HWD := hid (fun w1 (hb : Below w.heap.size w w1) => width_any M A c w1 (hr.step hb) hl)
  have HMY := hid (fun w1 (hb : Below w.heap.size w w1) => containsIt_any 23 #[] (fun x => manyB x.it) M A c w1 (hr.1.step hb) hl enters_many1 (fun w' hb' x hx => many1_any x w'))
  have HWR := hid (fun (g : Nat) (n : Int) (hn : 0 ≤ n ∧ n ≤ 9223372036854775807) w1 (hbb : Below w.heap.size w w1) (hc : Caught w1 ⟨g, 0, none⟩ (.int .i64 n)) => containsNt_any 24 #[.pointer (some ⟨g, 0, none⟩)] (wrongB n) bs bA bc w1 (hb.step hbb) hbl enters_wrong1 (fun w' hb' x hx => (wrong1_any x n hn g w' (hc.step hb')).mono fun e w2 ⟨h1, h2⟩ => ⟨h1, h2 ▸ Below.refl _ _⟩))
  have HX := hid (show rankX (its M) bs most = if rankE (its M) bs most = 0 then (expd ((its M).mergeSort (byLe bs))).take most.toNat else [] from rfl)
  have HE := hid (show rankE (its M) bs most = if setI (its M) ≠ 0 then setI (its M) else if (decide (widI (its M) < 0) || (its M).any manyB) = true then 5 else if (decide (8 < bs.length) || bs.any (wrongB (widI (its M))) || decide (most < 0) || decide (400 < most)) = true then 1 else 0 from rfl)
  have HWL := hid (@wid_le (its M))
  have HR := hid hr
  have HBS := hid hb
  have hany : M.any (fun x => manyB x.it) = (its M).any manyB := by rw [its, List.any_map]; rfl
  have HZ := hid (@rankE_zero (its M) bs most)
  have HWI := hid (fun h : 0 ≤ widI (its M) => wid_rows h)
  have HLS := hid (fun h : setI (its M) = 0 => (setI_zero.1 h))
  rw [hany] at HMY
  clear hr hb hany
  obtain ⟨S, hS⟩ : ∃ q, q = setI (its M) := ⟨_, rfl⟩
  obtain ⟨W, hW⟩ : ∃ q, q = widI (its M) := ⟨_, rfl⟩
  obtain ⟨Y, hY⟩ : ∃ q, q = (its M).any manyB := ⟨_, rfl⟩
  obtain ⟨E, hE⟩ : ∃ q, q = rankE (its M) bs most := ⟨_, rfl⟩
  obtain ⟨X, hX⟩ : ∃ q, q = rankX (its M) bs most := ⟨_, rfl⟩
  rw [← hS] at HCK HE HWL HLS
  rw [← hW] at HWD HE HWL HWI
  rw [← hY] at HMY HE
  rw [← hE] at HE HX HZ ⊢
  rw [← hX] at HX ⊢
  have HWQ := hid hW
  have HSQ := hid hS
  clear hS hW hY hE hX
  go_enter Tryd.func5, Tryd.ntmps5
  go_wp2_with fail
  -- STOP-a
  refine HCK.out.mono ?_
  rintro e w1 ⟨rfl, hb1⟩
  have HBW := hid hb1
  clear hb1
  by_cases q1 : S = 0
  rotate_left
  · have t1 : (S != 0) = true := by simpa using q1
    have hE1 : E = S := by rw [HE.out, if_pos q1]
    have HEE := hid hE1
    have HQ := hid q1
    clear q1 hE1
    go_wp2_with fail
    go_ret2
    exact rowsPost_nil (by rw [HX.out, if_neg (by rw [HEE.out]; exact HQ.out)]) HEE.out HBW.out
  subst q1
  have hW8 := HWL.out rfl
  replace HLS := hid (HLS.out rfl)
  replace HE : Hid (E = if (decide (W < 0) || Y) = true then 5 else if (decide (8 < bs.length) || bs.any (wrongB W) || decide (most < 0) || decide (400 < most)) = true then 1 else 0) := hid (by rw [HE.out, if_neg (by simp)])
  clear HWL HCK
  go_wp2_with fail
  -- STOP-b
  refine (HWD.out _ HBW.out).mono ?_
  rintro e w2 ⟨rfl, hb2⟩
  replace HBW := hid (Below.step' HBW.out hb2)
  clear hb2 HWD
  obtain ⟨W3, hW3⟩ : ∃ W3 : World, W3 = w2.alloc (.cells #[.int .i64 W] 3) := ⟨_, rfl⟩
  have HXN := hid (show Blk W3 w2.heap.size #[.int .i64 W] 3 by rw [hW3]; exact Blk.new _ _ _)
  replace HBW := hid (show Below w.heap.size w W3 by rw [hW3]; exact alloc_below HBW.out _)
  go_upto_region 5 with fail
  rw [← hW3]
  clear hW3
  obtain ⟨cHXN, fHXN, sHXN, nHXN⟩ := HXN.out.all
  try simp only [cbox] at cHXN
  have hnil5 : E = 5 → X = [] := fun h => by rw [HX.out, if_neg (by rw [h]; decide)]
  have HN5 := hid hnil5
  clear hnil5
  by_cases q2 : W < 0
  · have hE5 : E = 5 := by rw [HE.out, if_pos (by simp [q2])]
    have HE5 := hid hE5
    clear hE5
    go_wp2_with fail
    -- STOP-c
    go_ret2
    exact rowsPost_nil (HN5.out HE5.out) HE5.out HBW.out
  go_wp2_with fail
  -- STOP-d
  refine (HMY.out _ HBW.out).mono ?_
  rintro e w4 ⟨rfl, hb4⟩
  clear cHXN fHXN sHXN nHXN
  replace HXN := hid (HXN.out.step hb4)
  replace HBW := hid (Below.step' HBW.out hb4)
  clear hb4 HMY
  have HW0 := hid q2
  cases Y
  rotate_left
  · have HE5 := hid (show E = 5 by rw [HE.out, if_pos (by simp)])
    go_wp2_with fail
    go_ret2
    exact rowsPost_nil (HN5.out HE5.out) HE5.out HBW.out
  replace HE : Hid (E = if (decide (8 < bs.length) || bs.any (wrongB W) || decide (most < 0) || decide (400 < most)) = true then 1 else 0) := hid (by rw [HE.out, if_neg (by simp; have := HW0.out; omega)])
  have HN1 := hid (fun h : E = 1 => show X = [] by rw [HX.out, if_neg (by rw [h]; decide)])
  clear HN5
  by_cases q3 : 8 < bs.length
  · have HE1 := hid (show E = 1 by rw [HE.out, if_pos (by simp [q3])])
    have q3' : (8 : Int) < (bs.length : Int) := by omega
    clear q3
    go_wp2_with fail
    -- STOP-e
    go_ret2
    exact rowsPost_nil (HN1.out HE1.out) HE1.out HBW.out
  have q3' : ¬ (8 : Int) < (bs.length : Int) := by omega
  have q3'' : (bs.length : Int) ≤ (8 : Int) := by omega
  have HQ3 := hid q3
  clear q3
  go_wp2_with fail
  -- STOP-f
  refine (HWR.out w2.heap.size W (by have := HW0.out; omega) _ HBW.out ⟨by have := HXN.out.all.1 0; simpa using this, HXN.out.lt⟩).mono ?_
  rintro e w5 ⟨rfl, hb5⟩
  replace HXN := hid (HXN.out.step hb5)
  replace HBW := hid (Below.step' HBW.out hb5)
  clear hb5 HWR
  obtain ⟨Z, hZ⟩ : ∃ q, q = bs.any (wrongB W) := ⟨_, rfl⟩
  rw [← hZ] at HE ⊢
  clear hZ
  cases Z
  rotate_left
  · have HE1 := hid (show E = 1 by rw [HE.out, if_pos (by simp)])
    go_wp2_with fail
    go_ret2
    exact rowsPost_nil (HN1.out HE1.out) HE1.out HBW.out
  by_cases q4 : most < 0
  · have HE1 := hid (show E = 1 by rw [HE.out, if_pos (by simp [q4])])
    go_wp2_with fail
    go_ret2
    exact rowsPost_nil (HN1.out HE1.out) HE1.out HBW.out
  by_cases q5 : 400 < most
  · have HE1 := hid (show E = 1 by rw [HE.out, if_pos (by simp [q5])])
    go_wp2_with fail
    go_ret2
    exact rowsPost_nil (HN1.out HE1.out) HE1.out HBW.out
  have hE0 : E = 0 := by rw [HE.out, if_neg (by have := HQ3.out; simp; omega)]
  subst hE0
  replace HX : Hid (X = (expd ((its M).mergeSort (byLe bs))).take most.toNat) := hid (by rw [HX.out, if_pos rfl])
  obtain ⟨-, -, z3, -, z5, -, -⟩ := HZ.out rfl
  have HZ3 := hid z3
  have HOK : Hid (ByOk W.toNat bs) := hid (fun k hk => by have := z5 k hk; rw [← HWQ.out] at this; have := HW0.out; omega)
  have hM4 : M.length ≤ 400 := by have := HLS.out.1; rwa [its_len] at this
  replace HWI := hid (HWI.out (by have := HW0.out; omega))
  have HCL := hid (fun w1 (hb : Below w.heap.size w w1) => cloneIt_any M A c w1 (HR.out.1.step hb) (by omega))
  clear HE HN1 z3 z5 HZ
  go_wp2_with fail
  -- STOP-g
  refine (HCL.out _ HBW.out).mono ?_
  rintro e w6 ⟨v6, rfl, hown6, hb6⟩
  obtain ⟨A6, k6, rfl⟩ := own_formS hown6
  have HO6 := hid (own_baseS hown6 HBW.out.size)
  replace HBW := hid (Below.step' HBW.out hb6)
  clear hb6 hown6 HCL HXN
  go_wp2_with fail
  -- STOP-h
  refine (order_any bs bA bc w6).mono ?_
  rintro e w7 ⟨rfl, rfl⟩
  have HSO := hid (sortBy_own bs bA bc w6.heap.size W.toNat M (w6.alloc (.cells #[.slice bA bs.length bc] 23)) (HO6.out.alloc _) (fun x hx => by
    have h1 := HR.out.2 x hx
    have h2 := HWI.out x.it (List.mem_map.2 ⟨x, hx, rfl⟩)
    refine ⟨h1.1.below (alloc_below HBW.out _) (Nat.le_refl _), ?_⟩
    simp only [IR.it] at h2
    omega) (by have := HBW.out.size; simp; omega) (HBS.out.below (alloc_below HBW.out _) (Nat.le_refl _)) hbl ⟨by simp, by simp⟩ (by
    intro e
    have := own_inS HO6.out
    rcases A6 with _ | ⟨b, off, q⟩
    · cases e
    · have h := this b off q rfl
      injection e with e
      simp at e
      omega) (by omega) HOK.out (by omega))
  go_wp2_with fail
  -- STOP-i
  refine HSO.out.mono ?_
  rintro e w8 ⟨rfl, L', hperm, hsrt, hown8, hg8⟩
  have hB8 : Below w.heap.size w w8 := (alloc_below HBW.out _).grown hg8 (by have := HBW.out.size; simp; omega) (fun g e => (HO6.out.lt g e).1)
  have hits : its L' = (its M).mergeSort (byLe bs) := sorted_one HLS.out.2.2 (hperm.map _) hsrt
  rw [← hits] at HX
  have hlen : L'.length = M.length := hperm.length_eq
  have HRL := hid (Row.of_ownS hown8)
  have HRI : Hid (RowsAt w8 w8.heap.size L') := hid (fun x hx => (HR.out.2.step hB8) x (hperm.subset hx))
  have HL8 : Hid (∀ x ∈ L', x.row.length ≤ 8 ∧ 0 ≤ x.n ∧ x.n ≤ 400) := hid (fun x hx => by
    have h1 := HLS.out.2.1 x.it (List.mem_map.2 ⟨x, hperm.subset hx, rfl⟩)
    have h2 := HZ3.out x.it (List.mem_map.2 ⟨x, hperm.subset hx, rfl⟩)
    exact ⟨(badB_false h1).1, h2⟩)
  replace HBW := hid hB8
  obtain ⟨mn, hmn⟩ : ∃ mn : Nat, (mn : Int) = most := ⟨most.toNat, by omega⟩
  have hm400 : mn ≤ 400 := by omega
  rw [show most.toNat = mn by omega] at HX
  have HML := hid hlen
  have hLM : L'.length ≤ 400 := by omega
  subst hmn
  clear hits hsrt hperm hown8 hg8 hB8 HSO HO6 HR HLS HZ3 HOK HWI hlen q4 q5
  go_wp2_with fail
  -- STOP-j
  rw [← HML.out]
  go_loopw [11, 52] (fun s11 s52 wr => ∃ (i : Nat) (S : List IR), i ≤ L'.length ∧ s52 = .int .i64 i ∧ S.length ≤ mn ∧ Hid (nrows S = expd ((its L').take i)) ∧ Hid (wr.ownsRow w8.heap.size 23 1 s11 S.length (kcells S)) ∧ Hid (RowsNew wr w8.heap.size s11 S) ∧ Hid (Below w8.heap.size w8 wr)) (fun _ s52 _ => L'.length - (intOf s52).toNat)
  case atStart => exact ⟨0, [], by omega, rfl, by simp, hid (by simp [nrows, expd]), hid (World.ownsRow_nil _ _ _ _), hid (RowsNew.nil _ _ _), hid (Below.refl _ _)⟩
  case round =>
    obtain ⟨i, S, hi, rfl, hSm, HIS, HOWN, HNEW, HB⟩ := hrel
    obtain ⟨wo, rfl⟩ : ∃ wx : World, wx = wr := ⟨_, rfl⟩
    obtain ⟨A6', c6, rfl⟩ := own_formS HOWN.out
    have hs8 := HB.out.size
    by_cases hlt : i < L'.length
    · obtain ⟨b, off, rfl, hbb, e0, e1⟩ := (HRL.out.step HB.out).it hlt
      have HXR := hid ((HRI.out L'[i] (List.getElem_mem hlt)).1)
      obtain ⟨xl, x0, x4⟩ := HL8.out L'[i] (List.getElem_mem hlt)
      have hil : i < (its L').length := by rw [its_len]; exact hlt
      have hgi : (its L')[i] = L'[i].it := by simp [its]
      have HES := hid (expd_succ (its L') i hil)
      have HED := hid (show expd (its L') = expd ((its L').take i) ++ (List.replicate ((its L')[i].2.toNat) (its L')[i].1 ++ expd ((its L').drop (i + 1))) by rw [← expd_drop _ _ hil]; exact expd_split _ _)
      rw [hgi] at HES HED
      simp only [IR.it] at HES HED
      clear hgi hil
      generalize L'[i] = x at *
      obtain ⟨xr, xA, xk, xn⟩ := x
      simp only at e0 e1 HXR xl x0 x4 HES HED
      obtain ⟨nn, rfl⟩ : ∃ nn : Nat, xn = (nn : Int) := ⟨xn.toNat, by omega⟩
      rw [show ((nn : Int)).toNat = nn by omega] at HES HED
      have hneb : (b = wo.heap.size) = False := by simp; omega
      obtain ⟨P, hP⟩ : ∃ P, P = expd ((its L').take i) := ⟨_, rfl⟩
      rw [← hP] at HIS HES HED
      clear hP
      have HX9 := hid (Blk.new wo #[.slice xA xr.length xk, .int .i64 (nn : Int)] 51)
      have HB9 := hid (alloc_below HB.out (.cells #[.slice xA xr.length xk, .int .i64 (nn : Int)] 51))
      have HO9 := hid (HOWN.out.alloc (.cells #[.slice xA xr.length xk, .int .i64 (nn : Int)] 51))
      have HN9 := hid (HNEW.out.step (alloc_below (Below.refl _ _) (.cells #[.slice xA xr.length xk, .int .i64 (nn : Int)] 51)))
      have HNE : Hid (some wo.heap.size ≠ (Value.slice A6' S.length c6).ownBlock) := hid (fun e => by have := (HOWN.out.lt _ e.symm).2; omega)
      go_wp2_with fail
      -- STOP-k
      obtain ⟨W9, hW9⟩ : ∃ W9 : World, W9 = wo.alloc (.cells #[.slice xA xr.length xk, .int .i64 (nn : Int)] 51) := ⟨_, rfl⟩
      rw [← hW9] at HX9 HB9 HO9 HN9 ⊢
      clear hW9 e0 e1 hneb
      go_loopw [11, 58] (fun s11 s58 wr => ∃ (j : Nat) (S2 : List IR), j ≤ nn ∧ s58 = .int .i64 j ∧ S2.length ≤ mn ∧ Hid (nrows S2 = P ++ List.replicate j xr) ∧ Hid (wr.ownsRow w8.heap.size 23 1 s11 S2.length (kcells S2)) ∧ Hid (RowsNew wr w8.heap.size s11 S2) ∧ Hid (Below w8.heap.size w8 wr) ∧ Hid (Blk wr wo.heap.size #[.slice xA xr.length xk, .int .i64 (nn : Int)] 51) ∧ Hid (some wo.heap.size ≠ s11.ownBlock)) (fun _ s58 _ => nn - (intOf s58).toNat)
      case atStart => exact ⟨0, S, by omega, rfl, hSm, hid (by rw [HIS.out]; simp), HO9, HN9, HB9, HX9, HNE⟩
      case round =>
        obtain ⟨j, S2, hj, rfl, hS2, HJS, HOJ, HNJ, HBJ, HXJ, HNEJ⟩ := hrel
        obtain ⟨wi, rfl⟩ : ∃ wx : World, wx = wr := ⟨_, rfl⟩
        obtain ⟨A7, c7, rfl⟩ := own_formS HOJ.out
        have hs9 := HBJ.out.size
        have hbx9 := HXJ.out.lt
        by_cases hjl : j < nn
        · have hjl' : ((j : Int) < (nn : Int)) = True := eq_true (by omega)
          have HREP : Hid (expd (its L') = nrows S2 ++ (List.replicate (nn - j) xr ++ expd ((its L').drop (i + 1)))) := hid (by
            rw [HED.out, HJS.out, List.append_assoc, ← List.append_assoc (List.replicate j xr), List.replicate_append_replicate, show j + (nn - j) = nn by omega])
          by_cases hq : S2.length = mn
          · have hq' : ((S2.length : Int) == (mn : Int)) = true := by rw [hq]; simp
            have HQ := hid hq
            clear hq
            go_wp2_with fail
            -- STOP-l
            go_ret2
            refine ⟨A7, c7, S2, rfl, ?_, own_baseS HOJ.out HBW.out.size, fun y hy => ⟨(HNJ.out y hy).1, newAt_le (HNJ.out y hy).2.1 HBW.out.size, (HNJ.out y hy).2.2⟩, Below.step' HBW.out HBJ.out⟩
            have hQ := HQ.out
            rw [HX.out, HREP.out, List.take_append_of_le_length (by rw [nrows, List.length_map]; omega), List.take_of_length_le (by rw [nrows, List.length_map]; omega)]
          · have hq' : ((S2.length : Int) == (mn : Int)) = false := beq_eq_false_iff_ne.2 (by omega)
            have HCI := hid (cloneI_any xr xA xk wi (HXR.out.step HBJ.out) (by omega))
            obtain ⟨cHXJ, fHXJ, sHXJ, nHXJ⟩ := HXJ.out.all
            try simp only [cbox] at cHXJ
            go_wp2_with fail
            -- STOP-m
            refine HCI.out.mono ?_
            rintro e wc ⟨A5, c5, rfl, hr5, hn5, hin5, hb5⟩
            have HR5 := hid hr5
            have HN5 := hid hn5
            have HI5 := hid hin5
            have HB5 := hid hb5
            have hs5 := hb5.size
            have HOC := hid (own_laterS HOJ.out hb5)
            have HNC := hid (HNJ.out.step hb5)
            clear cHXJ fHXJ sHXJ nHXJ
            clear hr5 hn5 hin5 hb5
            have hone : ∀ u ∈ ([.slice A5 xr.length c5] : List Value), u.oneCell' = true := by
              intro u hu
              simp only [List.mem_cons, List.not_mem_nil, or_false] at hu
              subst hu; rfl
            go_wp2_with (at_builtin; refine wpList_append_row elem_ints rfl _ _ rfl w8.heap.size _ _ _ rfl (HOC.out.alloc _) (some ⟨wc.heap.size, 0, none⟩) 1 1 (wc.heap.size + 1) [.slice A5 xr.length c5] rfl rfl (Row.new' _ _ _ rfl rfl (Nat.lt_succ_self _)) hone ?_ ?_ ?_ ?_; rotate_right; intro v7 w7 hown7 hg7 hif7; rotate_left; (simp only [maxLen]; omega); (omega); (simp; omega))
            -- STOP-n
            have HOW7 := hid hown7
            have HG7 := hid hg7
            have HIF := hid hif7
            clear hown7 hg7 hif7 hone
            have hq2 := hq
            clear hq hq'
            go_roundw
            case rel =>
              have hne5 : ∀ b off q, A5 = some ⟨b, off, q⟩ → some b ≠ (Value.slice A7 S2.length c7).ownBlock := fun b off q e e2 => by
                have q1 := HN5.out b off q e
                have q2 := (HOJ.out.lt b e2.symm).2
                omega
              have hNA := (HNC.out.step (alloc_below (Below.refl _ _) (.cells #[.slice A5 xr.length c5] 23))).grown HG7.out HIF.out
              have hRA := (((HR5.out.step (alloc_below (Below.refl _ _) (.cells #[.slice A5 xr.length c5] 23))).grown_ne (Nat.le_refl _) HG7.out hne5).more HG7.out.size)
              have hB5 : Below w8.heap.size w8 wc := Below.step' HBJ.out HB5.out
              refine ⟨j + 1, S2 ++ [⟨xr, A5, c5, 0⟩], by omega, by go_num, by simp; omega, hid ?_, hid ?_, hid ?_, hid (Below.grown (alloc_below hB5 _) HG7.out (by simp; omega) (fun g e => (HOJ.out.lt g e).1)), hid ?_, hid ?_⟩
              · show (S2 ++ [_]).map IR.row = _
                rw [List.map_append, List.map_cons, List.map_nil, show S2.map IR.row = P ++ List.replicate j xr from HJS.out, List.append_assoc, List.replicate_succ']
              · rw [kcells_snoc, List.length_append]
                simpa using HOW7.out
              · refine RowsNew.snoc hNA (x := (⟨xr, A5, c5, 0⟩ : IR)) hRA (fun b off q e => by have := HN5.out b off q e; omega) (fun b off q e => ?_) (by simp only; omega)
                have hlt9 := HI5.out b off q e
                have hsz7 := HG7.out.size
                simp at hsz7
                refine ⟨?_, by omega⟩
                rcases HIF.out with h | h
                · rw [h]; exact hne5 b off q e
                · rw [h]; intro e2; injection e2 with e2; simp at e2; omega
              · exact (((HXJ.out.step HB5.out).alloc _).grown HG7.out HNEJ.out)
              · rcases HIF.out with h | h
                · rw [h]; exact HNEJ.out
                · rw [h]; intro e2; injection e2 with e2; simp at e2; omega
            case measure => simp [intOf]; omega
        · have hje : j = nn := by omega
          subst hje
          have hjl' : ¬ (j : Int) < (j : Int) := by omega
          go_wp2_with fail
          -- STOP-o
          go_roundw
          case rel => exact ⟨i + 1, S2, by omega, by go_num, hS2, hid (by rw [HJS.out, HES.out]), HOJ, HNJ, HBJ⟩
          case measure => simp [intOf]; omega
    · have hik : i = L'.length := by omega
      subst hik
      have hTA : (its L').take L'.length = its L' := by rw [← its_len L', List.take_length]
      rw [hTA] at HIS
      go_wp2_with fail
      -- STOP-p
      go_ret2
      refine ⟨A6', c6, S, rfl, ?_, own_baseS HOWN.out HBW.out.size, fun y hy => ⟨(HNEW.out y hy).1, newAt_le (HNEW.out y hy).2.1 HBW.out.size, (HNEW.out y hy).2.2⟩, Below.step' HBW.out HB.out⟩
      rw [HX.out, ← HIS.out, List.take_of_length_le (by rw [nrows, List.length_map]; omega)]
end Go.Proofs.YtldlmkfigjicgaaDoor
/- plain.All. -/
namespace Go.Proofs.YtldlmkfigjicgaaDoor
set_option linter.unusedVariables false
set_option linter.unusedSimpArgs false
open Go.ChangeShapes Go.WideShapes Go.ChangeAt Go.RowKit

theorem elem_sets : Elem Tryd.prog 74 22 1 24 := ⟨Tryd.underlying74, by
  obtain ⟨i, hi, hz, hs, hb⟩ := info_parts (P := Tryd.prog) (e := 22) (z := .slice none 0 0) (size := 1) (bytes := 24) (by kernel_rfl)
  exact ⟨i, _, hi, hz, hs, hb, rfl⟩, by decide⟩
abbrev pcells (LL : List LR) : List Value := LL.flatMap LR.cells
theorem pcells_len (LL : List LR) : (pcells LL).length = LL.length := by rw [pcells, flat_len LR.len, Nat.mul_one]
def setsOf (LL : List LR) : List (List It) := LL.map (fun x => its x.L)
theorem setsOf_len (LL : List LR) : (setsOf LL).length = LL.length := List.length_map ..
/-- Sets of a call's own making, that share nothing with the slice that holds them. -/
def SetsNew (w : World) (lo : Nat) (v : Value) (LL : List LR) : Prop :=
  ∀ x ∈ LL, w.ownsRow lo 51 2 (.slice x.A x.L.length x.k) x.L.length (rcells x.L) ∧ RowsNew w lo (.slice x.A x.L.length x.k) x.L ∧
    (∀ g, (Value.slice x.A x.L.length x.k).ownBlock = some g → some g ≠ v.ownBlock) ∧ ∀ y ∈ x.L, ∀ b off q, y.A = some ⟨b, off, q⟩ → some b ≠ v.ownBlock
theorem SetsNew.nil (w : World) (lo : Nat) (v : Value) : SetsNew w lo v [] := fun x hx => by simp at hx
theorem SetsNew.step {w w' : World} {lo : Nat} {v : Value} {LL : List LR} (h : SetsNew w lo v LL) (hb : Below w.heap.size w w') : SetsNew w' lo v LL := fun x hx => by
  obtain ⟨h1, h2, h3, h4⟩ := h x hx
  exact ⟨own_laterS h1 hb, h2.step hb, h3, h4⟩
theorem SetsNew.grown {w w' : World} {lo : Nat} {v v' : Value} {LL : List LR} (h : SetsNew w lo v LL) (hg : w.grownBy w' v.ownBlock) (hv : v'.ownBlock = v.ownBlock ∨ v'.ownBlock = some w.heap.size) : SetsNew w' lo v' LL := fun x hx => by
  obtain ⟨h1, h2, h3, h4⟩ := h x hx
  refine ⟨own_ne_grown h1 hg h3, h2.grownNe hg h4, fun g e => ?_, fun y hy b off q e => ?_⟩
  · rcases hv with hv | hv
    · rw [hv]; exact h3 g e
    · rw [hv]; intro e2; injection e2 with e2; have := (h1.lt g e).2; omega
  · rcases hv with hv | hv
    · rw [hv]; exact h4 y hy b off q e
    · rw [hv]; intro e2; injection e2 with e2; have := ((h2 y hy).2.2.1 b off q e).2; omega
theorem SetsNew.rows {w : World} {lo : Nat} {v : Value} {LL : List LR} (h : SetsNew w lo v LL) : ∀ x ∈ LL, RowI w w.heap.size x.A x.L := fun x hx => ⟨Row.of_ownS (h x hx).1, (h x hx).2.1.rows⟩
/-- All of one set lies ahead of all of the other. -/
def Apart (x y : LR) : Prop := ∃ mid : Nat, (∀ b off q, x.A = some ⟨b, off, q⟩ → b < mid) ∧ (∀ z ∈ x.L, ∀ b off q, z.A = some ⟨b, off, q⟩ → b < mid) ∧ NewAt mid y.A ∧ ∀ z ∈ y.L, NewAt mid z.A
theorem SetsNew.apart {w : World} {lo mid : Nat} {v : Value} {LL : List LR} (h : SetsNew w lo v LL) (hm : w.heap.size ≤ mid) (hp : LL.Pairwise Apart) {y : LR} (h1 : NewAt mid y.A) (h2 : ∀ z ∈ y.L, NewAt mid z.A) : (LL ++ [y]).Pairwise Apart := by
  refine List.pairwise_append.2 ⟨hp, List.pairwise_singleton _ _, fun x hx z hz => ?_⟩
  rw [List.mem_singleton.1 hz]
  obtain ⟨q1, q2, -, -⟩ := h x hx
  exact ⟨mid, fun b off q e => Nat.lt_of_lt_of_le (own_inS q1 b off q e) hm, fun t ht b off q e => Nat.lt_of_lt_of_le ((q2 t ht).2.2.1 b off q e).2 hm, h1, h2⟩
/-- Sets of a call's own making, and an error. -/
def AllPost (S : List (List It)) (x : Int) (w : World) (e : Ending) (w' : World) : Prop :=
  ∃ (A : Option Addr) (k : Nat) (LL : List LR), e = .returned (.tuple #[.slice A LL.length k, .int .i64 x]) ∧ setsOf LL = S ∧ w'.ownsRow w.heap.size 22 1 (.slice A LL.length k) LL.length (pcells LL) ∧ SetsNew w' w.heap.size (.slice A LL.length k) LL ∧ Below w.heap.size w w' ∧ LL.Pairwise Apart ∧ LL.length ≤ 30
theorem allPost_nil {S : List (List It)} {w w' : World} {x y : Int} (hS : S = []) (hx : y = x) (hb : Below w.heap.size w w') : AllPost S y w (.returned (.tuple #[.slice none 0 0, .int .i64 x])) w' := by
  subst hS hx; exact ⟨none, 0, [], rfl, rfl, World.ownsRow_nil _ _ _ _, SetsNew.nil _ _ _, hb, .nil, by simp⟩
theorem allPost_mk {S : List (List It)} {x y : Int} {w w' : World} {A : Option Addr} {k : Nat} {LL : List LR} (hx : y = x) (h1 : setsOf LL = S) (h2 : w'.ownsRow w.heap.size 22 1 (.slice A LL.length k) LL.length (pcells LL)) (h3 : SetsNew w' w.heap.size (.slice A LL.length k) LL) (h4 : Below w.heap.size w w') (h5 : LL.Pairwise Apart) (h6 : LL.length ≤ 30) : AllPost S y w (.returned (.tuple #[.slice A LL.length k, .int .i64 x])) w' := by
  subst hx; exact ⟨A, k, LL, rfl, h1, h2, h3, h4, h5, h6⟩
theorem setsOf_snoc (LL : List LR) (x : LR) : setsOf (LL ++ [x]) = setsOf LL ++ [its x.L] := List.map_append
theorem pcells_snoc (LL : List LR) (x : LR) : pcells (LL ++ [x]) = pcells LL ++ [.slice x.A x.L.length x.k] := by
  rw [pcells, List.flatMap_append]; rfl
theorem SetsNew.snoc {w : World} {lo : Nat} {v : Value} {LL : List LR} (h : SetsNew w lo v LL) {x : LR} (h1 : w.ownsRow lo 51 2 (.slice x.A x.L.length x.k) x.L.length (rcells x.L)) (h2 : RowsNew w lo (.slice x.A x.L.length x.k) x.L) (h3 : ∀ g, (Value.slice x.A x.L.length x.k).ownBlock = some g → some g ≠ v.ownBlock) (h4 : ∀ y ∈ x.L, ∀ b off q, y.A = some ⟨b, off, q⟩ → some b ≠ v.ownBlock) : SetsNew w lo v (LL ++ [x]) := fun y hy => by
  rcases List.mem_append.1 hy with e | e
  · exact h y e
  · rw [List.mem_singleton.1 e]; exact ⟨h1, h2, h3, h4⟩

theorem bound_of {A : List It} (h : setI A = 0) : ∀ y ∈ A, y.1.length ≤ 8 ∧ (∀ z ∈ y.1, -1073741824 ≤ z ∧ z ≤ 1073741824) ∧ -2097152 ≤ y.2 ∧ y.2 ≤ 2097152 := fun y hy => by
  have := badB_bound ((setI_zero.1 h).2.1 y hy)
  exact ⟨this.1, this.2.1, by omega, by omega⟩
theorem stepOk_of {s : St} {V : List Int} {out : List (List It)} (h : stW s V ≠ 0) (ho : OkOut out V) (k : s.kind ≠ 1) : 0 ≤ s.a ∧ s.a < out.length ∧ 0 ≤ s.b ∧ s.b < out.length ∧ StepOk s (out.getD s.a.toNat []) (out.getD s.b.toNat []) := by
  rcases stW_ok h with ⟨k1, -⟩ | ⟨a0, a1, b0, b1, hk⟩
  · exact absurd k1 k
  · obtain ⟨sA, hA⟩ := ho.get a0 a1
    obtain ⟨sB, hB⟩ := ho.get b0 b1
    have bA := bound_of sA
    have bB := bound_of sB
    rw [ho.1]
    refine ⟨a0, a1, b0, b1, ⟨fun k2 => ?_, fun k3 => ?_, fun k6 y hy => (bB y hy).2.2⟩, fun k4 => ?_, fun k89 => ?_⟩
    · rcases hk with ⟨q, hk⟩ | ⟨q, hk⟩ | ⟨q, hk⟩ | ⟨q, hk⟩ | q | ⟨q, hk⟩ | ⟨q, hk⟩ <;> try omega
      exact ⟨hk.1, fun y hy => by have := hA y hy; omega⟩
    · rcases hk with ⟨q, hk⟩ | ⟨q, hk⟩ | ⟨q, hk⟩ | ⟨q, hk⟩ | q | ⟨q, hk⟩ | ⟨q, hk⟩ <;> try omega
      exact ⟨hk.1, fun n hn => ⟨(hk.2 n hn).1, fun y hy => by have := hA y hy; have := (hk.2 n hn).2; omega⟩⟩
    · rcases hk with ⟨q, hk⟩ | ⟨q, hk⟩ | ⟨q, hk⟩ | ⟨q, hk⟩ | q | ⟨q, hk⟩ | ⟨q, hk⟩ <;> try omega
      exact ⟨hk.1, hk.2.2.1, fun y hy => ⟨by have := hA y hy; omega, bA y hy⟩, fun y hy => ⟨by have := hB y hy; omega, bB y hy⟩⟩
    · rcases hk with ⟨q, hk⟩ | ⟨q, hk⟩ | ⟨q, hk⟩ | ⟨q, hk⟩ | q | ⟨q, hk⟩ | ⟨q, hk⟩ <;> try omega
      · exact ⟨hk.1, fun k9 => by omega, fun y hy => ⟨by have := hA y hy; omega, fun k9 => by omega, (bA y hy).2⟩⟩
      · exact ⟨hk.1, fun k9 => hk.2.2.1, fun y hy => ⟨by have := hA y hy; omega, fun k9 => by have := hA y hy; omega, (bA y hy).2⟩⟩
theorem atL_len {s : St} {V : List Int} {out : List (List It)} {ta tb : List It} (h : stW s V ≠ 0) (ho : OkOut out V) (la : ta.length ≤ 400) (lb : tb.length ≤ 400) : (atL ta tb s out).length ≤ 160000 := by
  unfold atL
  by_cases k : s.kind = 1
  · rw [if_pos k]; split <;> omega
  · rw [if_neg k]
    rcases stW_ok h with ⟨k1, -⟩ | ⟨a0, a1, b0, b1, hk⟩
    · exact absurd k1 k
    · exact stL_len s (set_len (ho.get a0 a1).1) (set_len (ho.get b0 b1).1)
theorem stW_le {s : St} {V : List Int} (h : stW s V ≠ 0) (hV : ∀ v ∈ V, v ≤ 8) : stW s V ≤ 8 := by
  rw [stW_val h]
  have hg : ∀ i : Nat, V.getD i 0 ≤ 8 := fun i => by
    rw [List.getD_eq_getElem?_getD]
    cases e : V[i]? with
    | none => simp
    | some v => simpa using hV v (List.mem_of_getElem? e)
  unfold wv
  rcases stW_ok h with ⟨k1, -⟩ | ⟨a0, a1, b0, b1, hk⟩
  · rw [if_pos k1]; omega
  · have := hg s.a.toNat
    rcases hk with ⟨q, hk⟩ | ⟨q, hk⟩ | ⟨q, hk⟩ | ⟨q, hk⟩ | q | ⟨q, hk⟩ | ⟨q, hk⟩ <;> (repeat' split) <;> omega
theorem setsOf_getD {LL : List LR} {i : Nat} (h : i < LL.length) : (setsOf LL).getD i [] = its LL[i].L := by
  rw [List.getD_eq_getElem?_getD, setsOf, List.getElem?_map, List.getElem?_eq_getElem h]; rfl
end Go.Proofs.YtldlmkfigjicgaaDoor
/- plain.All, the walk. -/
namespace Go.Proofs.YtldlmkfigjicgaaDoor
set_option linter.unusedVariables false
set_option linter.unusedSimpArgs false
open Go.ChangeShapes Go.WideShapes Go.ChangeAt Go.RowKit

set_option maxHeartbeats 1000000 in
set_option maxRecDepth 100000 in
theorem all_any (L : List SR) (M1 M2 : List IR) (A0 A1 A2 : Option Addr) (c0 c1 c2 : Nat) (w : World) (h0 : RowS w w.heap.size A0 L) (l0 : L.length ≤ 9223372036854775807) (h1 : RowI w w.heap.size A1 M1) (l1 : M1.length ≤ 9223372036854775807) (h2 : RowI w w.heap.size A2 M2) (l2 : M2.length ≤ 9223372036854775807) :
    Calls Tryd.prog 45 #[.slice A0 L.length c0, .slice A1 M1.length c1, .slice A2 M2.length c2] w (AllPost (allX (sts L) (its M1) (its M2)) (allE (sts L) (its M1) (its M2)) w) := by
  have HBS := hid (bases_any L M1 M2 A0 A1 A2 c0 c1 c2 w h0 l0 h1 l1 h2 l2)
  have HE := hid (show allE (sts L) (its M1) (its M2) = if basesE (sts L) (its M1) (its M2) ≠ 0 then basesE (sts L) (its M1) (its M2) else (setsG (its M1) (its M2) (sts L) []).1 from rfl)
  have HX := hid (show allX (sts L) (its M1) (its M2) = if allE (sts L) (its M1) (its M2) = 0 then (setsG (its M1) (its M2) (sts L) []).2 else [] from rfl)
  obtain ⟨E, hE⟩ : ∃ q, q = allE (sts L) (its M1) (its M2) := ⟨_, rfl⟩
  obtain ⟨X, hX⟩ : ∃ q, q = allX (sts L) (its M1) (its M2) := ⟨_, rfl⟩
  obtain ⟨EB, hEB⟩ : ∃ q, q = basesE (sts L) (its M1) (its M2) := ⟨_, rfl⟩
  have HEB := hid hEB
  rw [← hE] at HE HX
  rw [← hX] at HX
  rw [← hEB] at HE HBS
  rw [← hE, ← hX]
  have HR := hid h0
  have HR1 := hid h1
  have HR2 := hid h2
  clear hE hX hEB h0 h1 h2
  go_enter Tryd.func45, Tryd.ntmps45
  go_wp2_with fail
  refine HBS.out.mono ?_
  rintro e w1 ⟨rfl, hb1⟩
  have HB1 := hid hb1
  clear hb1 HBS
  by_cases q0 : EB = 0
  rotate_left
  · have t1 : (EB != 0) = true := by simpa using q0
    have HE1 := hid (show E = EB by rw [HE.out, if_pos q0])
    have HQ := hid q0
    clear q0
    go_wp2_with fail
    go_ret2
    exact allPost_nil (by rw [HX.out, if_neg (by rw [HE1.out]; exact HQ.out)]) HE1.out HB1.out
  subst q0
  replace HE : Hid (E = (setsG (its M1) (its M2) (sts L) []).1) := hid (by rw [HE.out, if_neg (by simp)])
  obtain ⟨z1, z2, z3, z4, z5⟩ := basesE_zero.1 HEB.out.symm
  obtain ⟨z6, z7, Wf, z8⟩ := queryE_zero.1 z1
  have hL8 : L.length ≤ 8 := by simpa [sts] using z7
  have hM1 := len_set z2
  have hM2 := len_set z3
  have H4 := hid (And.intro z4 z5)
  have HLA := hid (show (its M1).length ≤ 400 from set_len z2)
  have HLB := hid (show (its M2).length ≤ 400 from set_len z3)
  have HW0 := hid z8
  clear z1 z2 z3 z4 z5 z6 z7 z8 HEB
  go_wp2_with fail
  -- STOP-a
  go_loopw [9, 24] (fun s9 s24 wr => ∃ (i : Nat) (LL : List LR) (V : List Int), i ≤ L.length ∧ s24 = .int .i64 i ∧ LL.length = i ∧ Hid (widsL (sts (L.drop i)) V = some Wf ∧ ∀ v ∈ V, v ≤ 8) ∧ Hid (OkOut (setsOf LL) V) ∧ Hid (setsG (its M1) (its M2) (sts (L.drop i)) (setsOf LL) = setsG (its M1) (its M2) (sts L) []) ∧ Hid (wr.ownsRow w1.heap.size 22 1 s9 LL.length (pcells LL)) ∧ Hid (SetsNew wr w1.heap.size s9 LL) ∧ Hid (Below w1.heap.size w1 wr) ∧ Hid (LL.Pairwise Apart)) (fun _ s24 _ => L.length - (intOf s24).toNat)
  case atStart => exact ⟨0, [], [], by omega, rfl, rfl, hid ⟨by rw [List.drop_zero]; exact HW0.out, by simp⟩, hid okOut_nil, hid (by rw [List.drop_zero]; rfl), hid (World.ownsRow_nil _ _ _ _), hid (SetsNew.nil _ _ _), hid (Below.refl _ _), hid .nil⟩
  case round =>
    obtain ⟨i, LL, V, hi, rfl, hLL, HWV, HOK, HSG, HOWN, HNEW, HB, HAPT⟩ := hrel
    obtain ⟨A9, c9, rfl⟩ := own_formS HOWN.out
    have hsw := HB.out.size
    have HBW := hid (Below.step' HB1.out HB.out)
    have HLL := hid hLL
    have hLL1 : LL.length ≤ i := by omega
    clear hLL
    by_cases hlt : i < L.length
    · have HRS := hid (HR.out.step HBW.out)
      obtain ⟨b, off, rfl, hb, e0, e1, e2, e3, e4, e5, e6⟩ := HRS.out.1.sr hlt
      have HRX := hid (HRS.out.2 L[i] (List.getElem_mem hlt))
      have hdr : sts (L.drop i) = L[i].st :: sts (L.drop (i + 1)) := by rw [List.drop_eq_getElem_cons hlt]; rfl
      obtain ⟨hWV, hV8⟩ := HWV.out
      rw [hdr] at hWV
      obtain ⟨y1, y2⟩ := widsL_cons hWV
      have HWN := hid y2
      have HSG' := HSG.out
      rw [hdr, setsG] at HSG'
      have HSN := hid HSG'
      have HSO := hid (fun k => stepOk_of y1 HOK.out k)
      have HAL := hid (atL_len y1 HOK.out HLA.out HLB.out)
      have HAW := hid (atL_wide y1 HOK.out H4.out.1 H4.out.2)
      have HV8 := hid (show ∀ v ∈ V ++ [stW L[i].st V], v ≤ 8 from fun v hv => by
        rcases List.mem_append.1 hv with q | q
        · exact hV8 v q
        · rw [List.mem_singleton.1 q]; exact stW_le y1 hV8)
      have HKA := hid (show L[i].st.kind = 1 → L[i].st.a = 0 ∨ L[i].st.a = 1 from fun k => by
        rcases stW_ok y1 with ⟨-, q⟩ | ⟨-, -, -, -, hk⟩
        · exact q
        · omega)
      clear hdr hWV hV8 y1 y2 HSG' HSG HWV
      generalize L[i] = x at *
      generalize stW x.st V = v at *
      obtain ⟨ST, hST⟩ : ∃ q, q = x.st := ⟨_, rfl⟩
      obtain ⟨⟨sk, sa, sb, sc, so, sv, sl⟩, sA, sK⟩ := x
      simp only at e0 e1 e2 e3 e4 e5 e6 HRX HKA HSO hST
      rw [← hST] at HSN HSO HAL HAW
      have HST := hid hST
      clear hST
      have hneb : (b = wr.heap.size) = False := by simp; omega
      obtain ⟨wo, rfl⟩ : ∃ wx : World, wx = wr := ⟨_, rfl⟩
      obtain ⟨W2, hW2⟩ : ∃ W2 : World, W2 = wo.alloc (.cells #[.int .i64 sk, .int .i64 sa, .int .i64 sb, .int .i64 sc, .int .i64 so, .int .i64 sv, .slice sA sl.length sK] 64) := ⟨_, rfl⟩
      have HX2 := hid (show Blk W2 wo.heap.size #[.int .i64 sk, .int .i64 sa, .int .i64 sb, .int .i64 sc, .int .i64 so, .int .i64 sv, .slice sA sl.length sK] 64 by rw [hW2]; exact Blk.new _ _ _)
      have HBO := hid (show Below wo.heap.size wo W2 by rw [hW2]; exact alloc_below (Below.refl _ _) _)
      go_upto_block 2 with fail
      -- STOP-b
      rw [← hW2]
      clear hW2 e0 e1 e2 e3 e4 e5 e6
      obtain ⟨cHX2, fHX2, sHX2, nHX2⟩ := HX2.out.all
      try simp only [cbox] at cHX2
      go_cut [12] from 28 to 49 (fun s12 wx => ∃ A M k, s12 = .slice A M.length k ∧ Hid ((its M).Perm (atL (its M1) (its M2) ST (setsOf LL))) ∧ Hid (RowI wx wx.heap.size A M) ∧ Hid (Below W2.heap.size W2 wx))
      case first =>
        obtain ⟨cx, fx, sx, nx⟩ := HX2.out.all
        by_cases k1 : sk = 1
        · have t1 : (sk != 1) = false := by simp [k1]
          have HAT := hid (show atL (its M1) (its M2) ST (setsOf LL) = if sa = 0 then its M1 else its M2 by rw [HST.out, atL, if_pos k1])
          clear k1
          by_cases k2 : sa = 0
          · have t2 : (sa == 0) = true := by simp [k2]
            have HK2 := hid k2
            clear k2
            go_wp2_with fail
            go_meet
            case rel => exact ⟨A1, M1, c1, rfl, hid (by rw [HAT.out, if_pos HK2.out]), hid (HR1.out.step (Below.step' HBW.out HBO.out)), hid (Below.refl _ _)⟩
          · have t2 : (sa == 0) = false := by simp [k2]
            have HK2 := hid k2
            clear k2
            go_wp2_with fail
            go_meet
            case rel => exact ⟨A2, M2, c2, rfl, hid (by rw [HAT.out, if_neg HK2.out]), hid (HR2.out.step (Below.step' HBW.out HBO.out)), hid (Below.refl _ _)⟩
        · have t1 : (sk != 1) = true := by simpa using k1
          have hKN : ST.kind ≠ 1 := by rw [HST.out]; exact k1
          have HAT := hid (show atL (its M1) (its M2) ST (setsOf LL) = stL ST ((setsOf LL).getD sa.toNat []) ((setsOf LL).getD sb.toNat []) by rw [atL, if_neg hKN, HST.out])
          obtain ⟨a0, a1, b0, b1, hok⟩ := HSO.out k1
          rw [setsOf_len] at a1 b1
          obtain ⟨ja, hja⟩ : ∃ j : Nat, (j : Int) = sa := ⟨sa.toNat, by omega⟩
          obtain ⟨jb, hjb⟩ : ∃ j : Nat, (j : Int) = sb := ⟨sb.toNat, by omega⟩
          have hla : ja < LL.length := by omega
          have hlb : jb < LL.length := by omega
          have eA : sa.toNat = ja := by omega
          have eB : sb.toNat = jb := by omega
          rw [eA, eB, setsOf_getD hla, setsOf_getD hlb] at hok HAT
          obtain ⟨bo, oo, rfl, hbo, ga⟩ := (Row.of_ownS HOWN.out).lr hla
          obtain ⟨bo', oo', hA9, hbo', gb⟩ := (Row.of_ownS HOWN.out).lr hlb
          injection hA9 with hA9
          injection hA9 with hA9 hA9'
          subst hA9 hA9'
          have SA := HNEW.out.rows _ (List.getElem_mem hla)
          have SB := HNEW.out.rows _ (List.getElem_mem hlb)
          have LA : LL[ja].L.length ≤ 800 := by
            have := (HOK.out.2 ja (by rw [setsOf_len]; exact hla)).1
            rw [setsOf_getD hla] at this
            exact Nat.le_trans (len_set this) (by decide)
          have LB : LL[jb].L.length ≤ 800 := by
            have := (HOK.out.2 jb (by rw [setsOf_len]; exact hlb)).1
            rw [setsOf_getD hlb] at this
            exact Nat.le_trans (len_set this) (by decide)
          generalize LL[ja] = RA at *
          generalize LL[jb] = RB at *
          obtain ⟨MA, AA, kA⟩ := RA
          obtain ⟨MB, AB, kB⟩ := RB
          simp only at SA SB LA LB ga gb hok HAT
          have HSA := hid SA
          have HSB := hid SB
          have HOKS := hid hok
          have hga := ((bcell HBO.out).1 bo _ hbo).trans ga
          have hgb := ((bcell HBO.out).1 bo _ hbo).trans gb
          have HCS := hid (fun w3 (hb : Below W2.heap.size W2 w3) => step_any ⟨⟨sk, sa, sb, sc, so, sv, sl⟩, sA, sK⟩ MA MB AA AB kA kB w3 (HRX.out.1.step (Below.step' HBO.out hb)) (HSA.out.step (Below.step' HBO.out hb)) LA (HSB.out.step (Below.step' HBO.out hb)) LB (by have := HOKS.out; rw [HST.out] at this; exact this))
          have hbo2 : bo < W2.heap.size := Nat.lt_of_lt_of_le hbo HBO.out.size
          clear SA SB hok ga gb eA eB hKN k1 hbo'
          subst hja hjb
          go_upto_region 11 with fail
          refine region_tail 11 (by kernel_rfl) (by kernel_rfl) ?_
          simp only [List.take_succ_cons, List.take_zero, List.drop_succ_cons, List.drop_zero]
          repeat still_step
          refine wpStill_nil ?_
          go_wp2_with fail
          -- STOP-c
          refine (HCS.out _ (Below.drew (Below.refl _ _))).mono ?_
          rintro e w3 ⟨A12, k12, M12, rfl, hperm, hrow, hb3⟩
          have HPM := hid hperm
          have HRW := hid hrow
          have HB3 := hid hb3
          clear hperm hrow hb3 HCS
          go_wp2_with fail
          go_meet
          case rel => exact ⟨A12, M12, k12, rfl, hid (by rw [HAT.out, HST.out]; exact HPM.out), HRW, hid (Below.step' (Below.drew (Below.refl _ _)) HB3.out)⟩
      case rest =>
        obtain ⟨A12, M12, k12, rfl, HPM, HRW, HB3⟩ := hcut
        have HB4 := hid (Below.step' HBO.out HB3.out)
        have HO4 := hid (own_laterS HOWN.out HB4.out)
        have HN4 := hid (HNEW.out.step HB4.out)
        clear HX2
        obtain ⟨w4, rfl⟩ : ∃ wx : World, wx = wc := ⟨_, rfl⟩
        -- STOP-d
        have hlM : M12.length ≤ 160000 := by
          rw [← its_len M12, HPM.out.length_eq]
          exact HAL.out
        have hS : sumL (its M12) = sumL (atL (its M1) (its M2) ST (setsOf LL)) := sumL_perm HPM.out
        have HLEN := hid (show ∀ y ∈ M12, (y.row.length : Int) = v from fun y hy => HAW.out _ (HPM.out.mem_iff.1 (List.mem_map.2 ⟨y, hy, rfl⟩)))
        have hv8 : v ≤ 8 := HV8.out v (by simp)
        have HSM : Hid (∀ w5, Below w4.heap.size w4 w5 → ∀ A3, Row w5 w5.heap.size A3 [.slice A12 M12.length k12] → Calls Tryd.prog 38 #[.slice A3 1 1] w5 (ItsPost (sumL (its M12)) w5)) := hid (fun w5 hb A3 h => by
          have := sum_any [⟨M12, A12, k12⟩] A3 1 w5 (by simpa using h) (fun x hx => by
            simp only [List.mem_cons, List.not_mem_nil, or_false] at hx
            subst hx
            exact HRW.out.step hb) (by simp; omega) (by simp) (fun x hx => by
            simp only [lrs, List.flatMap_cons, List.flatMap_nil, List.append_nil] at hx
            have := HLEN.out x hx
            omega)
          simpa using this)
        rw [hS] at HSM
        generalize hSS : sumL (atL (its M1) (its M2) ST (setsOf LL)) = SS at *
        clear hS
        have HSS := hid hSS
        clear hSS
        go_wp2_with fail
        -- STOP-e
        refine (HSM.out _ (alloc_below (Below.refl _ _) _) _ (Row.new' _ _ _ rfl rfl (by simp))).mono ?_
        rintro e w5 ⟨A3, k3, M3, rfl, hits, hown, hnew, hb5⟩
        have hB5 : Below w4.heap.size w4 w5 := (by refine Below.step' ?_ hb5; (repeat' (first | (with_reducible exact Below.refl _ _) | (with_reducible assumption) | (with_reducible refine below_drewN ?_ _) | (with_reducible refine Below.drew ?_) | (with_reducible refine Below.alloc ?_ ?_ _) | (with_reducible refine Below.setCell ?_ ?_ _) | (refine Below.trans ?_ (Below.mono (by assumption) ?_)) | go_size)))
        have hs4 : wo.heap.size ≤ w4.heap.size := HB4.out.size
        have HIT := hid hits
        have HOW := hid (own_baseS hown (show w4.heap.size ≤ _ by simp))
        have HNW : Hid (RowsNew w5 w4.heap.size (.slice A3 M3.length k3) M3) := hid (fun x hx => by
          obtain ⟨q1, q2, q3, q4⟩ := hnew x hx
          exact ⟨q1, newAt_le q2 (by simp), q3, q4⟩)
        have hl3 : M3.length ≤ 160000 := by
          rw [← its_len M3, hits, ← HSS.out]
          exact Nat.le_trans (sumL_len _) HAL.out
        have hdn := done_any M3 A3 k3 w5 (Row.of_ownS hown) hnew.rows (by omega)
        rw [hits] at hdn
        have HDN := hid hdn
        have HB5 := hid hB5
        have HO5 := hid (own_laterS HO4.out hB5)
        have HN5 := hid (HN4.out.step hB5)
        obtain ⟨ED, hED⟩ : ∃ q, q = doneE SS := ⟨_, rfl⟩
        have HED := hid hED
        rw [← hED] at HDN HSN
        clear hits hown hnew hb5 hB5 hdn HSM hED
        go_wp2_with fail
        -- STOP-f
        refine HDN.out.mono ?_
        rintro e w6 ⟨rfl, hb6⟩
        have HB6 := hid hb6
        have HO6 := hid (own_laterS HO5.out hb6)
        have HN6 := hid (HN5.out.step hb6)
        have HOS6 := hid (own_laterS HOW.out hb6)
        have HNS6 := hid (HNW.out.step hb6)
        have HBA := hid (Below.step' (Below.step' HBW.out HB4.out) (Below.step' HB5.out hb6))
        have HBL := hid (Below.step' (Below.step' HB.out HB4.out) (Below.step' HB5.out hb6))
        have hs6 := HBL.out.size
        clear hb6 HDN HO5 HN5
        by_cases hz : ED = 0
        · have HZ := hid hz
          rw [if_pos hz]
          have hzb : (ED != 0) = false := by simp [hz]
          have HSN2 := hid (show setsG (its M1) (its M2) (sts (L.drop (i + 1))) (setsOf LL ++ [SS]) = setsG (its M1) (its M2) (sts L) [] by have := HSN.out; rwa [if_neg (by simp [hz])] at this)
          clear hz HSN
          have hone : ∀ u ∈ ([.slice A3 M3.length k3] : List Value), u.oneCell' = true := by
            intro u hu
            simp only [List.mem_cons, List.not_mem_nil, or_false] at hu
            subst hu; rfl
          go_wp2_with (at_builtin; refine wpList_append_row elem_sets rfl _ _ rfl w1.heap.size _ _ _ rfl (HO6.out.alloc _) (some ⟨w6.heap.size, 0, none⟩) 1 1 (w6.heap.size + 1) [.slice A3 M3.length k3] rfl rfl (Row.new' _ _ _ rfl rfl (Nat.lt_succ_self _)) hone ?_ ?_ ?_ ?_; rotate_right; intro v7 w7 hown7 hg7 hif7; rotate_left; (simp only [maxLen]; omega); (omega); (simp; omega))
          -- STOP-g
          have HOW7 := hid hown7
          have HG7 := hid hg7
          have HIF := hid hif7
          clear hown7 hg7 hif7 hone hs6 hs4
          go_roundw
          case rel =>
            have hNA := (HN6.out.step (alloc_below (Below.refl _ _) (.cells #[.slice A3 M3.length k3] 22))).grown HG7.out HIF.out
            have hsz6 := (Below.step' HB5.out HB6.out).size
            have hsz7 := HG7.out.size
            simp at hsz7
            refine ⟨i + 1, LL ++ [⟨M3, A3, k3⟩], V ++ [v], by omega, by go_num, by simp; exact HLL.out, hid ⟨HWN.out, HV8.out⟩, hid ?_, hid ?_, hid ?_, hid ?_, hid (Below.grown (alloc_below HBL.out _) HG7.out (by have := HBL.out.size; simp; omega) (fun g e => (HO6.out.lt g e).1)), hid (HN4.out.apart (Nat.le_refl _) HAPT.out (own_newS HOS6.out (Nat.le_refl _)) (fun z hz => (HNS6.out z hz).2.1))⟩
            · rw [setsOf_snoc]
              refine HOK.out.snoc ?_ fun y hy => ?_
              · rw [HIT.out, ← HSS.out]
                exact done_set (by rw [HSS.out, ← HED.out]; exact HZ.out)
              · simp only at hy
                rw [HIT.out, ← HSS.out] at hy
                obtain ⟨z, hz, e2⟩ := sumL_mem hy
                rw [← e2]
                exact HAW.out z hz
            · rw [setsOf_snoc, HIT.out]; exact HSN2.out
            · rw [pcells_snoc, List.length_append]
              simpa using HOW7.out
            · have hap := alloc_below (Below.refl w6.heap.size w6) (.cells #[.slice A3 M3.length k3] 22)
              have hOA := own_laterS HOS6.out hap
              have hNB := HNS6.out.step hap
              have hb4w := HBL.out.size
              have hold : ∀ g, w4.heap.size ≤ g → g < w6.heap.size → some g ≠ _ := fun g q1 q2 e2 => by
                have := (HO4.out.lt g e2.symm).2
                omega
              have hne : ∀ g, w4.heap.size ≤ g → g < w6.heap.size → some g ≠ v7.ownBlock := fun g q1 q2 => by
                rcases HIF.out with q | q
                · rw [q]; exact hold g q1 q2
                · rw [q]; intro e2; injection e2 with e2; simp at e2; omega
              have hsA : w1.heap.size ≤ w4.heap.size := (Below.step' HB.out HB4.out).size
              refine SetsNew.snoc hNA (x := (⟨M3, A3, k3⟩ : LR)) (own_baseS (own_ne_grown hOA HG7.out fun g e => ?_) hsA) (fun y hy => ?_) (fun g e => ?_) (fun y hy b off q e => ?_)
              · have := HOS6.out.lt g e
                exact hold g this.1 this.2
              · have hy2 := (hNB.grownNe HG7.out (fun z hz b off q e => hold b ((HNS6.out z hz).2.1 b off q e) ((HNS6.out z hz).2.2.1 b off q e).2)) y hy
                exact ⟨hy2.1, newAt_le hy2.2.1 hsA, hy2.2.2⟩
              · have := HOS6.out.lt g e
                exact hne g this.1 this.2
              · exact hne b ((HNS6.out y hy).2.1 b off q e) ((HNS6.out y hy).2.2.1 b off q e).2
          case measure => simp [intOf]; omega
        · have HZ := hid hz
          rw [if_neg hz]
          have hzb : (ED != 0) = true := by simpa using hz
          have HSN2 := hid (show setsG (its M1) (its M2) (sts L) [] = (ED, []) by have := HSN.out; rw [if_pos hz] at this; exact this.symm)
          clear hz HSN
          go_wp2_with fail
          -- STOP-h
          go_ret2
          refine allPost_nil ?_ ?_ HBA.out
          · rw [HX.out, HE.out, HSN2.out, if_neg HZ.out]
          · rw [HE.out, HSN2.out]
    · have hik : i = L.length := by omega
      subst hik
      have HS0 := hid (show setsG (its M1) (its M2) (sts L) [] = (0, setsOf LL) by have := HSG.out; rw [List.drop_length] at this; exact this.symm)
      go_wp2_with fail
      -- STOP-i
      go_ret2
      have hE0 : E = 0 := by rw [HE.out, HS0.out]
      refine allPost_mk hE0 ?_ (own_baseS HOWN.out HB1.out.size) (fun x hx => ?_) HBW.out HAPT.out (by have := HLL.out; omega)
      · rw [HX.out, if_pos hE0, HS0.out]
      · obtain ⟨q1, q2, q3, q4⟩ := HNEW.out x hx
        exact ⟨own_baseS q1 HB1.out.size, fun y hy => ⟨(q2 y hy).1, newAt_le (q2 y hy).2.1 HB1.out.size, (q2 y hy).2.2⟩, q3, q4⟩
end Go.Proofs.YtldlmkfigjicgaaDoor
/- plain.Eval. -/
namespace Go.Proofs.YtldlmkfigjicgaaDoor
set_option linter.unusedVariables false
set_option linter.unusedSimpArgs false
open Go.ChangeShapes Go.WideShapes Go.ChangeAt Go.RowKit

theorem itsErr_mk {S : List It} {x y : Int} {w w' : World} {A : Option Addr} {k : Nat} {M : List IR} (hx : y = x) (h1 : its M = S) (h2 : w'.ownsRow w.heap.size 51 2 (.slice A M.length k) M.length (rcells M)) (h3 : RowsNew w' w.heap.size (.slice A M.length k) M) (h4 : Below w.heap.size w w') : ItsErr S y w (.returned (.tuple #[.slice A M.length k, .int .i64 x])) w' := by
  subst hx; exact ⟨A, k, M, rfl, h1, h2, h3, h4⟩

set_option maxHeartbeats 1000000 in
set_option maxRecDepth 100000 in
theorem eval_any (L : List SR) (M1 M2 : List IR) (A0 A1 A2 : Option Addr) (c0 c1 c2 : Nat) (w : World) (h0 : RowS w w.heap.size A0 L) (l0 : L.length ≤ 9223372036854775807) (h1 : RowI w w.heap.size A1 M1) (l1 : M1.length ≤ 9223372036854775807) (h2 : RowI w w.heap.size A2 M2) (l2 : M2.length ≤ 9223372036854775807) :
    Calls Tryd.prog 17 #[.slice A0 L.length c0, .slice A1 M1.length c1, .slice A2 M2.length c2] w (ItsErr (evalX (sts L) (its M1) (its M2)) (allE (sts L) (its M1) (its M2)) w) := by
  have HAL := hid (all_any L M1 M2 A0 A1 A2 c0 c1 c2 w h0 l0 h1 l1 h2 l2)
  have HOK := hid (fun h : allE (sts L) (its M1) (its M2) = 0 => all_ok h)
  have HX := hid (show evalX (sts L) (its M1) (its M2) = (allX (sts L) (its M1) (its M2)).getLastD [] from rfl)
  have HN := hid (show allE (sts L) (its M1) (its M2) ≠ 0 → allX (sts L) (its M1) (its M2) = [] from fun h => by unfold allX; rw [if_neg h])
  obtain ⟨E, hE⟩ : ∃ q, q = allE (sts L) (its M1) (its M2) := ⟨_, rfl⟩
  obtain ⟨X, hX⟩ : ∃ q, q = allX (sts L) (its M1) (its M2) := ⟨_, rfl⟩
  obtain ⟨Y, hY⟩ : ∃ q, q = evalX (sts L) (its M1) (its M2) := ⟨_, rfl⟩
  rw [← hX, ← hE] at HAL HN
  rw [← hX, ← hE] at HOK
  rw [← hX, ← hY] at HX
  rw [← hY, ← hE]
  clear hX hE hY h0 h1 h2
  go_enter Tryd.func17, Tryd.ntmps17
  go_wp2_with fail
  refine HAL.out.mono ?_
  rintro e w1 ⟨A9, c9, LL, rfl, hS, hown, hnew, hb1, -, -⟩
  have HS := hid hS
  have HOW := hid hown
  have HNW := hid hnew
  have HB := hid hb1
  clear hS hown hnew hb1 HAL
  by_cases q0 : E = 0
  rotate_left
  · have t1 : (E != 0) = true := by simpa using q0
    have HY0 := hid (show Y = [] by rw [HX.out, HN.out q0]; rfl)
    clear q0
    go_wp2_with fail
    go_ret2
    exact itsErr_nil' HY0.out rfl HB.out
  · subst q0
    obtain ⟨Wf, -, -, o3, o4⟩ := HOK.out rfl
    have hlen : LL.length = X.length := by rw [← setsOf_len, HS.out]
    obtain ⟨j, hj⟩ : ∃ j : Nat, j + 1 = LL.length := ⟨LL.length - 1, by omega⟩
    have hjl : j < LL.length := by omega
    obtain ⟨bo, oo, rfl, hbo, ga⟩ := (Row.of_ownS HOW.out).lr hjl
    have HR := hid (HNW.out _ (List.getElem_mem hjl))
    have HY1 := hid (show its LL[j].L = Y by
      rw [HX.out, ← HS.out, ← getD_last _ _ (by rw [setsOf_len]; omega), setsOf_len, show LL.length - 1 = j by omega, setsOf_getD hjl])
    generalize LL[j] = R at *
    obtain ⟨M, A, k⟩ := R
    simp only at ga HR HY1
    have hw : IntKind.i64.wrap ((LL.length : Int) - 1) = (j : Int) := by
      have : (sts L).length = L.length := List.length_map ..
      rw [IntWalk.i64_in _ (by omega)]; omega
    have hjl' : (j : Int) < (LL.length : Int) := by omega
    clear hlen o3 o4 hj
    go_wp2_with fail
    -- STOP-a
    go_ret2
    exact itsErr_mk rfl HY1.out HR.out.1 HR.out.2.1 HB.out
end Go.Proofs.YtldlmkfigjicgaaDoor
