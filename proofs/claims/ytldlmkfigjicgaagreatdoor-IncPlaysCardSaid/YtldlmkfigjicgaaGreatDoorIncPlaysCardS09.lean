/- QyC, RkB, RkC, PnA, PnB, PnC -/
import Derived.Test.YtldlmkfigjicgaaGreatDoorIncPlaysCardS08
import Derived.Shelf.SlSortCmp.NoneTotal
/- query.widths, query.Check. -/
namespace Go.Proofs.YtldlmkfigjicgaaGreatDoor
set_option linter.unusedVariables false
set_option linter.unusedSimpArgs false
open Go.ChangeShapes Go.WideShapes Go.ChangeAt Go.RowKit

theorem info_intQ : (Tryz.prog.info? 3).map (fun i => (i.zero, i.size, i.bytes)) = some (some (.int .i64 0), 1, 8) := by kernel_rfl
theorem icellsQ_snoc (l : List Int) (x : Int) : icells' (l ++ [x]) = icells' l ++ icells' [x] := by simp
theorem icellsQ_one (l : List Int) : ∀ u ∈ icells' l, u.oneCell' = true := by
  intro u hu
  obtain ⟨x, -, rfl⟩ := List.mem_map.1 hu
  rfl
theorem widsL_drop {L : List St} {i : Nat} (h : i < L.length) (V : List Int) : widsL (L.drop i) V = if stW L[i] V = 0 then none else widsL (L.drop (i + 1)) (V ++ [stW L[i] V]) := by
  rw [List.drop_eq_getElem_cons h, widsL]

/-- Widths of a call's own making, and an error. -/
def WidsPost (V : List Int) (x : Int) (w : World) (e : Ending) (w' : World) : Prop :=
  ∃ v, e = .returned (.tuple #[v, .int .i64 x]) ∧ w'.ownsRow w.heap.size 3 1 v V.length (icells' V) ∧ Below w.heap.size w w'
theorem widsPost_mk {V V' : List Int} {E x : Int} {w w' : World} {v : Value} (hx : E = x) (hV : V = V') (ho : w'.ownsRow w.heap.size 3 1 v V'.length (icells' V')) (hb : Below w.heap.size w w') : WidsPost V E w (.returned (.tuple #[v, .int .i64 x])) w' := by
  subst hx hV; exact ⟨v, rfl, ho, hb⟩

set_option maxHeartbeats 1000000 in
set_option maxRecDepth 100000 in
theorem widths_any (L : List SR) (A : Option Addr) (c : Nat) (w : World) (hr : RowS w w.heap.size A L) (hl : L.length ≤ 9223372036854775807) :
    Calls Tryz.prog 88 #[.slice A L.length c] w (WidsPost (queryW (sts L)) (queryE (sts L)) w) := by
  have HR := hid hr
  have HW := hid (show queryW (sts L) = if queryE (sts L) = 0 then (widsL (sts L) []).getD [] else [] from rfl)
  have HE := hid (show queryE (sts L) = if (sts L).length = 0 then 1 else if 8 < (sts L).length then 2 else if widsL (sts L) [] = none then 1 else 0 from rfl)
  obtain ⟨E, hE⟩ : ∃ q, q = queryE (sts L) := ⟨_, rfl⟩
  obtain ⟨X, hX⟩ : ∃ q, q = queryW (sts L) := ⟨_, rfl⟩
  rw [← hE, ← hX] at HW ⊢
  rw [← hE] at HE
  have hsl : (sts L).length = L.length := List.length_map ..
  rw [hsl] at HE
  obtain ⟨i1, hi0, hz0, hz1, hz2⟩ := info_parts info_intQ
  clear hE hX hr hsl
  have HN := hid (fun h : E ≠ 0 => show X = [] by rw [HW.out, if_neg h])
  by_cases h0 : L.length = 0
  · have t0 : ((L.length : Int) == 0) = true := by rw [h0]; rfl
    have HE1 := hid (show E = 1 by rw [HE.out, if_pos h0])
    clear h0
    go_enter Tryz.func88, Tryz.ntmps88
    go_wp2_with fail
    go_ret2
    exact widsPost_mk HE1.out (HN.out (by rw [HE1.out]; decide)) (World.ownsRow_nil _ _ _ _) (Below.refl _ _)
  have t0 : ((L.length : Int) == 0) = false := beq_eq_false_iff_ne.2 (by omega)
  by_cases h8 : 8 < L.length
  · have t8 : ((8 : Int) < (L.length : Int)) = True := eq_true (by omega)
    have HE1 := hid (show E = 2 by rw [HE.out, if_neg h0, if_pos h8])
    clear h0 h8
    go_enter Tryz.func88, Tryz.ntmps88
    go_wp2_with fail
    go_ret2
    exact widsPost_mk HE1.out (HN.out (by rw [HE1.out]; decide)) (World.ownsRow_nil _ _ _ _) (Below.refl _ _)
  have t8 : ((8 : Int) < (L.length : Int)) = False := eq_false (by omega)
  replace HE : Hid (E = if widsL (sts L) [] = none then 1 else 0) := hid (by rw [HE.out, if_neg h0, if_neg h8])
  have hl8 : L.length ≤ 8 := by omega
  clear h0 h8
  go_enter Tryz.func88, Tryz.ntmps88
  go_wp2_with fail
  -- STOP-a
  go_loopw [4, 18] (fun s4 s18 wr => ∃ (i : Nat) (V : List Int), i ≤ L.length ∧ s18 = .int .i64 i ∧ V.length = i ∧ Hid (widsL (sts L) [] = widsL ((sts L).drop i) V) ∧ Hid (∀ v ∈ V, 1 ≤ v ∧ v ≤ 8) ∧ Hid (wr.ownsRow w.heap.size 3 1 s4 V.length (icells' V)) ∧ Hid (Below w.heap.size w wr)) (fun _ s18 _ => L.length - (intOf s18).toNat)
  case atStart => exact ⟨0, [], by omega, rfl, rfl, hid rfl, hid (by simp), hid (World.ownsRow_nil _ _ _ _), hid (Below.refl _ _)⟩
  case round =>
    obtain ⟨i, V, hi, rfl, hVl, HWD, HVR, HOWN, HB⟩ := hrel
    obtain ⟨A4, c4, rfl⟩ := own_formS HOWN.out
    have HVL := hid hVl
    have hs := HB.out.size
    have hV8 : V.length ≤ 8 := by omega
    clear hVl
    by_cases hlt : i < L.length
    · obtain ⟨b, off, rfl, hb, e0, e1, e2, e3, e4, e5, e6⟩ := (HR.out.1.step HB.out).sr hlt
      obtain ⟨xl, xll⟩ := (HR.out.2.step HB.out) L[i] (List.getElem_mem hlt)
      have hil : i < (sts L).length := by rw [sts, List.length_map]; exact hlt
      have HSD := hid (show widsL (sts L) [] = if stW L[i].st V = 0 then none else widsL ((sts L).drop (i + 1)) (V ++ [stW L[i].st V]) by
        rw [HWD.out, widsL_drop hil]; simp [sts])
      have HWI := hid (fun w1 (hbb : Below wr.heap.size wr w1) => width_any' L[i] V A4 c4 w1 (xl.step hbb) xll ((Row.of_ownS HOWN.out).step hbb) hV8 HVR.out)
      have HSR := hid (fun h : stW L[i].st V ≠ 0 => stW_range HVR.out h)
      generalize L[i] = x at *
      obtain ⟨⟨sk, sa, sb, sc, so, sv, sl⟩, sA, sK⟩ := x
      simp only [SR.cells] at e0 e1 e2 e3 e4 e5 e6 HWI HSD HSR
      obtain ⟨n, hn⟩ : ∃ n, n = stW ⟨sk, sa, sb, sc, so, sv, sl⟩ V := ⟨_, rfl⟩
      rw [← hn] at HWI HSD HSR
      have hne : (b = wr.heap.size) = False := by simp; omega
      clear hn xl xll hil
      obtain ⟨wo, rfl⟩ : ∃ wx : World, wx = wr := ⟨_, rfl⟩
      by_cases q0 : n = 0
      · subst q0
        have HE1 := hid (show E = 1 by rw [HE.out, HSD.out, if_pos rfl, if_pos rfl])
        go_wp2_with fail
        -- STOP-b
        refine (HWI.out _ (by exact (Below.refl _ _).alloc (Nat.le_refl _) _)).mono ?_
        rintro e w1 ⟨rfl, hb1⟩
        have hB1 : Below wo.heap.size wo w1 := (by refine Below.step' ?_ hb1; (repeat' (first | (with_reducible exact Below.refl _ _) | (with_reducible assumption) | (with_reducible refine below_drewN ?_ _) | (with_reducible refine Below.drew ?_) | (with_reducible refine Below.alloc ?_ ?_ _) | (with_reducible refine Below.setCell ?_ ?_ _) | (refine Below.trans ?_ (Below.mono (by assumption) ?_)) | go_size)))
        have HB1 := hid hB1
        clear hb1 hB1
        go_wp2_with fail
        go_ret2
        exact widsPost_mk HE1.out (HN.out (by rw [HE1.out]; decide)) (World.ownsRow_nil _ _ _ _) (Below.step' HB.out HB1.out)
      · have t1 : (n == 0) = false := beq_eq_false_iff_ne.2 q0
        have HSN := hid (show widsL (sts L) [] = widsL ((sts L).drop (i + 1)) (V ++ [n]) by rw [HSD.out, if_neg q0])
        have HNR := hid (HSR.out q0)
        clear q0
        go_wp2_with fail
        -- STOP-c
        refine (HWI.out _ (by exact (Below.refl _ _).alloc (Nat.le_refl _) _)).mono ?_
        rintro e w1 ⟨rfl, hb1⟩
        have hB1 : Below wo.heap.size wo w1 := (by refine Below.step' ?_ hb1; (repeat' (first | (with_reducible exact Below.refl _ _) | (with_reducible assumption) | (with_reducible refine below_drewN ?_ _) | (with_reducible refine Below.drew ?_) | (with_reducible refine Below.alloc ?_ ?_ _) | (with_reducible refine Below.setCell ?_ ?_ _) | (refine Below.trans ?_ (Below.mono (by assumption) ?_)) | go_size)))
        have HB1 := hid hB1
        have hs1 := hB1.size
        have HO1 := hid (own_laterS HOWN.out hB1)
        clear hb1 hB1
        go_wp2_with (at_builtin; refine wpList_append_own _ rfl _ _ 30 rfl w.heap.size 3 i1 _ 1 8 Tryz.underlying30 hi0 hz0 hz1 hz2 rfl (by decide) _ _ _ rfl (HO1.out.alloc _) ⟨w1.heap.size, 0, none⟩ 1 1 (icells' [n]) rfl rfl (news_at _ [.int .i64 n] _ _ rfl) (icellsQ_one _) ?_ ?_ ?_ ?_; rotate_right; intro v6 w6 hown6 hg6 _; rotate_left; (simp only [maxLen]; omega); (omega); (simp; omega))
        -- STOP-d
        have HOW6 := hid hown6
        have HG6 := hid hg6
        clear hown6 hg6
        go_roundw
        case rel =>
          refine ⟨i + 1, V ++ [n], by omega, by go_num, by have := HVL.out; simp; omega, HSN, hid (fun v hv => ?_), hid ?_, hid (Below.grown (alloc_below (Below.step' HB.out HB1.out) _) HG6.out (by simp; omega) (fun g e => (HO1.out.lt g e).1))⟩
          · rcases List.mem_append.1 hv with q | q
            · exact HVR.out v q
            · rw [List.mem_singleton.1 q]; exact HNR.out
          · rw [icellsQ_snoc, List.length_append]
            simpa using HOW6.out
        case measure => simp [intOf]; omega
    · have hik : i = L.length := by omega
      have hdr : (sts L).drop i = [] := List.drop_eq_nil_of_le (by rw [sts, List.length_map]; omega)
      have HE0 := hid (show E = 0 by rw [HE.out, HWD.out, hdr, widsL, if_neg (by simp)])
      have HX0 := hid (show X = V by rw [HW.out, if_pos HE0.out, HWD.out, hdr, widsL]; rfl)
      clear hdr
      subst hik
      go_wp2_with fail
      -- STOP-e
      go_ret2
      exact widsPost_mk HE0.out HX0.out HOWN.out HB.out

set_option maxRecDepth 100000 in
theorem qcheck_any (L : List SR) (A : Option Addr) (c : Nat) (w : World) (hr : RowS w w.heap.size A L) (hl : L.length ≤ 9223372036854775807) :
    Calls Tryz.prog 58 #[.slice A L.length c] w fun e w' => e = .returned (.int .i64 (queryE (sts L))) ∧ Below w.heap.size w w' := by
  have HW := hid (widths_any L A c w hr hl)
  obtain ⟨E, hE⟩ : ∃ q, q = queryE (sts L) := ⟨_, rfl⟩
  rw [← hE] at HW ⊢
  clear hE hr
  go_enter Tryz.func58, Tryz.ntmps58
  go_wp2_with fail
  refine HW.out.mono ?_
  rintro e w1 ⟨v, rfl, -, hb1⟩
  have HB := hid hb1
  clear hb1
  go_wp2_with fail
  go_ret
  exact ⟨rfl, HB.out⟩
end Go.Proofs.YtldlmkfigjicgaaGreatDoor
/- rank.order: the comparison by columns; slices.SortFunc at items by it. -/
namespace Go.Proofs.YtldlmkfigjicgaaGreatDoor
set_option linter.unusedVariables false
set_option linter.unusedSimpArgs false
open Go.ChangeShapes Go.WideShapes Go.ChangeAt Go.RowKit Go.Shelf Go.Lib Go.Sort

/-- A world that is another one, with more memory and more drawn. -/
def Grew (w w' : World) : Prop := ∃ q os, w' = grow (w.drewN q) os
theorem Grew.alloc {w w' : World} (h : Grew w w') (o : Obj) : Grew w (w'.alloc o) := by
  obtain ⟨q, os, rfl⟩ := h
  exact ⟨q, os ++ #[o], by rw [alloc_eq_grow, grow_grow]⟩
theorem Grew.drewN {w w' : World} (h : Grew w w') (n : Nat) : Grew w (w'.drewN n) := by
  obtain ⟨q, os, rfl⟩ := h
  exact ⟨q + n, os, by simp [grow, World.drewN, Nat.add_assoc]⟩
theorem Grew.refl (w : World) : Grew w w := ⟨0, #[], by simp [grow, World.drewN]⟩
theorem Grew.below {w w' : World} (h : Grew w w') : Below w.heap.size w w' := by
  obtain ⟨q, os, rfl⟩ := h
  refine ⟨rfl, rfl, rfl, by simp [grow, World.drewN], fun k hk => ?_⟩
  simp [grow, World.drewN, Array.getElem?_append, hk]

end Go.Proofs.YtldlmkfigjicgaaGreatDoor
/- slices.Clone at Item; slices.SortFunc at Item by an order of columns. -/
namespace Go.Proofs.YtldlmkfigjicgaaGreatDoor
set_option linter.unusedVariables false
set_option linter.unusedSimpArgs false
open Go.ChangeShapes Go.WideShapes Go.ChangeAt Go.RowKit Go.Shelf Go.Lib Go.Sort

/-- A list of a call's own making, of given cells. -/
def OwnPost (T : TypeId) (s n : Nat) (xs : List Value) (w : World) (e : Ending) (w' : World) : Prop := ∃ v, e = .returned v ∧ w'.ownsRow w.heap.size T s v n xs ∧ Below w.heap.size w w'
set_option maxHeartbeats 400000 in
set_option maxRecDepth 100000 in
theorem cloneIt_any (M : List IR) (A : Option Addr) (c : Nat) (w : World) (hr : Row w w.heap.size A (rcells M)) (hl : M.length ≤ 1048576) :
    Calls Tryz.prog 83 #[.slice A M.length c] w (OwnPost 67 2 M.length (rcells M) w) := by
  rcases A with _ | ad
  · have he : M = [] := by
      rcases hr with h | ⟨b, off, h, _⟩
      · cases M with
        | nil => rfl
        | cons x M => simp [rcells, IR.cells] at h
      · cases h
    subst he
    have hnil := fun (w : World) => Lib.run_eql_slice_nil w (P := Tryz.prog) (t := 22) (e := 67) none 0 c 0 0 Tryz.underlying22
    go_enter Tryz.func83, Tryz.ntmps83
    go_wp2
    go_ret
    exact ⟨_, rfl, World.ownsRow_nil _ _ _ _, Below.refl _ _⟩
  · have hnil := fun (w : World) => Lib.run_eql_slice_nil w (P := Tryz.prog) (t := 22) (e := 67) (some ad) M.length c 0 0 Tryz.underlying22
    have HR := hid hr
    have h2 := rcells_len M
    clear hr
    go_enter Tryz.func83, Tryz.ntmps83
    go_wp2_with (at_builtin; refine wpList_append_row elem_item rfl _ _ rfl w.heap.size (.slice (some ⟨w.heap.size, 0, none⟩) 0 0) 0 [] rfl (World.ownsRow_made w #[] 0 (Nat.le_refl _) (by decide) rfl) (some ad) M.length c w.heap.size (rcells M) rfl ?_ (HR.out.below (Below.alloc (Below.refl _ _) (Nat.le_refl _) _) (Nat.le_refl _)) ?_ ?_ ?_ ?_ ?_; rotate_right; intro v1 w1 hown1 hg1 hat1; rotate_left; (exact h2); (exact rcells_one M); (simp only [maxLen]; omega); (omega); (simp))
    go_ret
    refine ⟨_, rfl, by simpa using hown1, ((Below.refl _ _).alloc (Nat.le_refl _) _).grown hg1 (by simp) (fun k hk => ?_)⟩
    simp [Value.ownBlock] at hk
    omega

theorem Caught.grown {w w' : World} {b off : Nat} {v : Value} (h : Caught w ⟨b, off, none⟩ v) {r : Option Nat} (hg : w.grownBy w' r) (hne : some b ≠ r) : Caught w' ⟨b, off, none⟩ v :=
  ⟨(World.cell?_of_block (w := w) (hg.block b h.2 hne)).trans h.1, Nat.lt_of_lt_of_le h.2 hg.size⟩
end Go.Proofs.YtldlmkfigjicgaaGreatDoor
/- plain.Holds, where, neg, pick. -/
namespace Go.Proofs.YtldlmkfigjicgaaGreatDoor
set_option linter.unusedVariables false
set_option linter.unusedSimpArgs false
open Go.ChangeShapes Go.WideShapes Go.ChangeAt Go.RowKit

theorem holds_any (op n v : Int) (w : World) :
    Calls Tryz.prog 130 #[.int .i64 op, .int .i64 n, .int .i64 v] w fun e w' => e = .returned (.bool (stHolds op n v)) ∧ w = w' := by
  obtain ⟨R, hR⟩ : ∃ R, R = stHolds op n v := ⟨_, rfl⟩
  rw [← hR]
  have HR := hid hR
  clear hR
  by_cases h1 : op = 1
  · have e1 : (op == 1) = true := by simp [h1]
    have HQ := hid h1
    clear h1
    go_enter Tryz.func130, Tryz.ntmps130
    go_wp2
    go_ret
    exact ⟨ret_bool (by rw [HR.out]; unfold stHolds; rw [if_pos HQ.out]), rfl⟩
  · have e1 : (op == 1) = false := by simp [h1]
    by_cases h2 : op = 2
    · have e2 : (op == 2) = true := by simp [h2]
      have HQ := hid h2
      have HP := hid h1
      clear h1 h2
      go_enter Tryz.func130, Tryz.ntmps130
      go_wp2
      go_ret
      exact ⟨ret_bool (by rw [HR.out]; unfold stHolds; rw [if_neg HP.out, if_pos HQ.out]; rfl), rfl⟩
    · have e2 : (op == 2) = false := by simp [h2]
      have HQ := hid h2
      have HP := hid h1
      clear h1 h2
      go_enter Tryz.func130, Tryz.ntmps130
      go_wp2
      go_ret
      exact ⟨ret_bool (by rw [HR.out]; unfold stHolds; rw [if_neg HP.out, if_neg HQ.out]), rfl⟩

/-- Items, wherever their rows lie. -/
def LiPost (S : List It) (w : World) (e : Ending) (w' : World) : Prop :=
  ∃ (A : Option Addr) (k : Nat) (M : List IR), e = .returned (.slice A M.length k) ∧ its M = S ∧ RowI w' w'.heap.size A M ∧ Below w.heap.size w w'
theorem rcells_app (M N : List IR) : rcells (M ++ N) = rcells M ++ rcells N := by rw [rcells, List.flatMap_append]

def whereM (s : St) (M : List IR) : List IR := M.filter (fun x => stHolds s.op (colD x.row s.col) s.val)
theorem whereM_its (s : St) (M : List IR) : its (whereM s M) = whereL s (its M) := by
  unfold whereM whereL its
  rw [List.filter_map]; rfl

set_option maxHeartbeats 1000000 in
set_option maxRecDepth 100000 in
theorem where_any (x : SR) (M : List IR) (A : Option Addr) (c : Nat) (w : World) (hr : RowI w w.heap.size A M) (hl : M.length ≤ 1048576) (hc : 0 ≤ x.st.col ∧ ∀ y ∈ M, x.st.col < (y.row.length : Int)) :
    Calls Tryz.prog 104 #[.agg x.cells.toArray, .slice A M.length c] w (LiPost (whereL x.st (its M)) w) := by
  obtain ⟨⟨sk, sa, sb, sc, so, sv, sl⟩, sA, sK⟩ := x
  simp only at hc
  obtain ⟨hc0, hc1⟩ := hc
  obtain ⟨j, rfl⟩ : ∃ j : Nat, sc = (j : Int) := ⟨sc.toNat, by omega⟩
  have HR := hid hr
  have HC := hid hc1
  obtain ⟨s, hs⟩ : ∃ s : St, s = ⟨sk, sa, sb, (j : Int), so, sv, sl⟩ := ⟨_, rfl⟩
  have HF := hid (fun i (hi : i < M.length) => show whereM s (M.take (i + 1)) = whereM s (M.take i) ++ (if stHolds so (colD M[i].row j) sv = true then [M[i]] else []) by
    unfold whereM
    rw [List.take_succ_eq_append_getElem hi, List.filter_append, List.filter_cons, List.filter_nil, hs])
  have HLe := hid (fun i => show (whereM s (M.take i)).length ≤ i from Nat.le_trans (List.length_filter_le _ _) (List.length_take_le _ _))
  have HIT := hid (whereM_its s M)
  have HSUB := hid (fun x (hx : x ∈ whereM s M) => show x ∈ M from (List.mem_filter.1 hx).1)
  have hw0 : whereM s (M.take 0) = [] := rfl
  have HW0 := hid hw0
  simp only [SR.cells]
  rw [← hs]
  clear hr hc1 hs hw0
  obtain ⟨W1, hW1⟩ : ∃ W1 : World, W1 = w.alloc (.cells #[.int .i64 sk, .int .i64 sa, .int .i64 sb, .int .i64 (j : Int), .int .i64 so, .int .i64 sv, .slice sA sl.length sK] 89) := ⟨_, rfl⟩
  have HX := hid (show Blk W1 w.heap.size #[.int .i64 sk, .int .i64 sa, .int .i64 sb, .int .i64 (j : Int), .int .i64 so, .int .i64 sv, .slice sA sl.length sK] 89 by rw [hW1]; exact Blk.new _ _ _)
  have HB1 := hid (show Below w.heap.size w W1 by rw [hW1]; (repeat' (first | (with_reducible exact Below.refl _ _) | (with_reducible assumption) | (with_reducible refine below_drewN ?_ _) | (with_reducible refine Below.drew ?_) | (with_reducible refine Below.alloc ?_ ?_ _) | (with_reducible refine Below.setCell ?_ ?_ _) | (refine Below.trans ?_ (Below.mono (by assumption) ?_)) | go_size)))
  have hs1 := HB1.out.size
  go_enter Tryz.func104, Tryz.ntmps104
  go_wp2_with fail
  rw [← hW1]
  clear hW1
  -- STOP-a
  go_loopw [5, 10] (fun s5 s10 wr => ∃ i : Nat, i ≤ M.length ∧ s10 = .int .i64 i ∧ Hid (wr.ownsRow W1.heap.size 67 2 s5 (whereM s (M.take i)).length (rcells (whereM s (M.take i)))) ∧ Hid (Below W1.heap.size W1 wr)) (fun _ s10 _ => M.length - (intOf s10).toNat)
  case atStart => exact ⟨0, by omega, rfl, hid (by rw [HW0.out]; exact World.ownsRow_nil _ _ _ _), hid (Below.refl _ _)⟩
  case round =>
    obtain ⟨i, hi, rfl, HOWN, HB⟩ := hrel
    obtain ⟨A5, c5, rfl⟩ := own_formS HOWN.out
    have hsw := HB.out.size
    have hOl := HLe.out i
    have HBW := hid (Below.step' HB1.out HB.out)
    by_cases hlt : i < M.length
    · obtain ⟨b, off, rfl, hb, e0, e1⟩ := (HR.out.1.step HBW.out).it hlt
      obtain ⟨xl, xll⟩ := (HR.out.2.step HBW.out) M[i] (List.getElem_mem hlt)
      have hcx := HC.out M[i] (List.getElem_mem hlt)
      have HFI := hid (HF.out i hlt)
      generalize M[i] = x at *
      obtain ⟨xr, xA, xk, xn⟩ := x
      simp only at e0 e1 xl xll hcx HFI
      have hj : j < xr.length := by omega
      obtain ⟨b2, o2, rfl, hb2, hv2⟩ := xl.int' hj
      have hcd : colD xr j = xr[j] := by unfold colD; rw [Int.toNat_natCast, List.getD_eq_getElem?_getD, List.getElem?_eq_getElem hj]; rfl
      rw [hcd] at HFI
      generalize xr[j] = u at *
      have HH := hid (fun w1 => holds_any so u sv w1)
      obtain ⟨hb0, hhb⟩ : ∃ q, q = stHolds so u sv := ⟨_, rfl⟩
      rw [← hhb] at HH HFI
      have hneb : (b = wr.heap.size) = False := by simp; omega
      have hneb2 : (b2 = wr.heap.size) = False := by simp; omega
      have hjl : (j : Int) < (xr.length : Int) := by omega
      obtain ⟨O, hO⟩ : ∃ O, O = whereM s (M.take i) := ⟨_, rfl⟩
      rw [← hO] at HOWN HFI hOl ⊢
      clear hcd hhb hO xl hcx
      obtain ⟨wo, rfl⟩ : ∃ wx : World, wx = wr := ⟨_, rfl⟩
      have HXO := hid (HX.out.step HB.out)
      obtain ⟨W2, hW2⟩ : ∃ W2 : World, W2 = wo.alloc (.cells #[.slice (some ⟨b2, o2, none⟩) xr.length xk, .int .i64 xn] 67) := ⟨_, rfl⟩
      have HX2 := hid (show Blk W2 wo.heap.size #[.slice (some ⟨b2, o2, none⟩) xr.length xk, .int .i64 xn] 67 by rw [hW2]; exact Blk.new _ _ _)
      have HBO := hid (show Below wo.heap.size wo W2 by rw [hW2]; exact alloc_below (Below.refl _ _) _)
      have HO2 := hid (show W2.ownsRow W1.heap.size 67 2 (.slice A5 O.length c5) O.length (rcells O) by rw [hW2]; exact HOWN.out.alloc _)
      replace HXO := hid (HXO.out.step HBO.out)
      have hv3 := ((bcell HBO.out).1 b2 _ hb2).trans hv2
      have hb3 : b2 < W2.heap.size := Nat.lt_of_lt_of_le hb2 HBO.out.size
      go_upto_region 5 with fail
      -- STOP-b
      rw [← hW2]
      clear hW2 hv2 e0 e1
      obtain ⟨cHXO, fHXO, sHXO, nHXO⟩ := HXO.out.all
      try simp only [cbox] at cHXO
      obtain ⟨cHX2, fHX2, sHX2, nHX2⟩ := HX2.out.all
      try simp only [cbox] at cHX2
      cases hb0
      · go_wp2_with fail
        refine wp_region_quiet_lit (by kernel_rfl) (by kernel_rfl) ?_
        repeat (any_goals ((with_reducible refine wpQuiet_step (fun K hK => ?_)); go_simp; first | (with_reducible refine hK _ ?_; clear hK K) | ((with_reducible apply Exists.intro); (with_reducible refine ⟨fun _ => ?_, hK _ ?_⟩); (go_at_call 130; exact (HH.out _).mono fun _ _ ⟨he, hb⟩ => ⟨he, _, hb.symm⟩); clear hK K) | ((with_reducible refine (if_neg ?_).mpr (hK _ ?_)); (decide); clear hK K) | (split <;> (with_reducible refine hK _ ?_; clear hK K))))
        all_goals ((with_reducible refine wpQuiet_nil ?_); intro _ hw'; obtain ⟨nq, hw''⟩ := hw'; subst hw'')
        go_wp2_with fail
        go_roundw
        case rel =>
          refine ⟨i + 1, by omega, by go_num, hid ?_, hid (below_drewN (HB.out.trans (HBO.out.mono hsw)) _)⟩
          rw [HFI.out, if_neg (by simp), List.append_nil]
          exact HO2.out
        case measure => simp [intOf]; omega
      · go_wp2_with fail
        refine wp_region_quiet_lit (by kernel_rfl) (by kernel_rfl) ?_
        repeat (any_goals ((with_reducible refine wpQuiet_step (fun K hK => ?_)); go_simp; first | (with_reducible refine hK _ ?_; clear hK K) | ((with_reducible apply Exists.intro); (with_reducible refine ⟨fun _ => ?_, hK _ ?_⟩); (go_at_call 130; exact (HH.out _).mono fun _ _ ⟨he, hb⟩ => ⟨he, _, hb.symm⟩); clear hK K) | ((with_reducible refine (if_neg ?_).mpr (hK _ ?_)); (decide); clear hK K) | (split <;> (with_reducible refine hK _ ?_; clear hK K))))
        all_goals ((with_reducible refine wpQuiet_nil ?_); intro _ hw'; obtain ⟨nq, hw''⟩ := hw'; subst hw'')
        have hone : ∀ u ∈ ([.slice (some ⟨b2, o2, none⟩) xr.length xk, .int .i64 xn] : List Value), u.oneCell' = true := by
          intro u hu
          simp only [List.mem_cons, List.not_mem_nil, or_false] at hu
          rcases hu with rfl | rfl <;> rfl
        go_wp2_with (at_builtin; refine wpList_append_row elem_item rfl _ _ rfl W1.heap.size _ _ _ rfl ((show (W2.drewN nq).ownsRow W1.heap.size 67 2 (.slice A5 O.length c5) O.length (rcells O) from HO2.out).alloc _) (some ⟨W2.heap.size, 0, none⟩) 1 1 (W2.heap.size + 1) [.slice (some ⟨b2, o2, none⟩) xr.length xk, .int .i64 xn] rfl rfl (by exact Row.new' (W2.drewN nq) _ _ rfl rfl (Nat.lt_succ_self _)) hone ?_ ?_ ?_ ?_; rotate_right; intro v7 w7 hown7 hg7 hif7; rotate_left; (simp only [maxLen]; omega); (omega); (have := HBO.out.size; simp; omega))
        -- STOP-c
        have HOW7 := hid hown7
        have HG7 := hid hg7
        clear hown7 hg7 hif7 hone
        go_roundw
        case rel =>
          refine ⟨i + 1, by omega, by go_num, hid ?_, hid (Below.grown (alloc_below (below_drewN (HB.out.trans (HBO.out.mono hsw)) _) _) HG7.out (by have := HBO.out.size; simp; omega) (fun g e => (HO2.out.lt g e).1))⟩
          rw [HFI.out, if_pos (by first | trivial | rfl), rcells_app, List.length_append]
          simpa using HOW7.out
        case measure => simp [intOf]; omega
    · have hik : i = M.length := by omega
      subst hik
      rw [List.take_length] at HOWN ⊢
      go_wp2_with fail
      go_ret
      refine ⟨A5, c5, whereM s M, rfl, HIT.out, ⟨Row.of_ownS HOWN.out, (HR.out.2.step HBW.out).sub HSUB.out⟩, HBW.out⟩
end Go.Proofs.YtldlmkfigjicgaaGreatDoor
/- plain.neg, pick. -/
namespace Go.Proofs.YtldlmkfigjicgaaGreatDoor
set_option linter.unusedVariables false
set_option linter.unusedSimpArgs false
open Go.ChangeShapes Go.WideShapes Go.ChangeAt Go.RowKit

def negM (M : List IR) : List IR := M.map (fun x => ⟨x.row, x.A, x.k, -x.n⟩)
theorem negM_its (M : List IR) : its (negM M) = negL (its M) := by
  unfold negM negL its
  rw [List.map_map, List.map_map]; rfl
theorem negM_rows {w : World} {B : Nat} {M : List IR} (h : RowsAt w B M) : RowsAt w B (negM M) := fun x hx => by
  obtain ⟨y, hy, rfl⟩ := List.mem_map.1 hx
  exact h y hy

set_option maxHeartbeats 1000000 in
set_option maxRecDepth 100000 in
theorem pneg_any (M : List IR) (A : Option Addr) (c : Nat) (w : World) (hr : RowI w w.heap.size A M) (hl : M.length ≤ 1048576) (hn : ∀ y ∈ M, -2097152 ≤ y.n ∧ y.n ≤ 2097152) :
    Calls Tryz.prog 106 #[.slice A M.length c] w fun e w' => ∃ (A' : Option Addr) (k : Nat), e = .returned (.slice A' (negM M).length k) ∧ Row w' w'.heap.size A' (rcells (negM M)) ∧ Below w.heap.size w w' := by
  have HR := hid hr
  have HN := hid hn
  have HF := hid (fun i (hi : i < M.length) => show negM (M.take (i + 1)) = negM (M.take i) ++ [⟨M[i].row, M[i].A, M[i].k, -M[i].n⟩] by
    unfold negM
    rw [List.take_succ_eq_append_getElem hi, List.map_append]; rfl)
  have HLe := hid (fun i (hi : i ≤ M.length) => show (negM (M.take i)).length = i by unfold negM; rw [List.length_map, List.length_take]; omega)
  have HIT := hid (negM_its M)
  have hw0 : negM (M.take 0) = [] := rfl
  have HW0 := hid hw0
  clear hr hn hw0
  go_enter Tryz.func106, Tryz.ntmps106
  go_wp2_with fail
  go_loopw [3, 8] (fun s3 s8 wr => ∃ i : Nat, i ≤ M.length ∧ s8 = .int .i64 i ∧ Hid (wr.ownsRow w.heap.size 67 2 s3 (negM (M.take i)).length (rcells (negM (M.take i)))) ∧ Hid (Below w.heap.size w wr)) (fun _ s8 _ => M.length - (intOf s8).toNat)
  case atStart => exact ⟨0, by omega, rfl, hid (by rw [HW0.out]; exact World.ownsRow_nil _ _ _ _), hid (Below.refl _ _)⟩
  case round =>
    obtain ⟨i, hi, rfl, HOWN, HB⟩ := hrel
    obtain ⟨A5, c5, rfl⟩ := own_formS HOWN.out
    have hsw := HB.out.size
    have hOl := HLe.out i hi
    by_cases hlt : i < M.length
    · obtain ⟨b, off, rfl, hb, e0, e1⟩ := (HR.out.1.step HB.out).it hlt
      have hnx := HN.out M[i] (List.getElem_mem hlt)
      have HFI := hid (HF.out i hlt)
      generalize M[i] = x at *
      obtain ⟨xr, xA, xk, xn⟩ := x
      simp only at e0 e1 hnx HFI
      have hwn : IntKind.i64.wrap (-xn) = -xn := IntWalk.i64_in _ (by omega)
      have hneb : (b = wr.heap.size) = False := by simp; omega
      obtain ⟨O, hO⟩ : ∃ O, O = negM (M.take i) := ⟨_, rfl⟩
      rw [← hO] at HOWN HFI hOl ⊢
      have HOL := hid hOl
      have hOle : O.length ≤ 1048576 := by omega
      clear hO hOl
      have hone : ∀ u ∈ ([.slice xA xr.length xk, .int .i64 (-xn)] : List Value), u.oneCell' = true := by
        intro u hu
        simp only [List.mem_cons, List.not_mem_nil, or_false] at hu
        rcases hu with rfl | rfl <;> rfl
      go_wp2_with (at_builtin; refine wpList_append_row elem_item rfl _ _ rfl w.heap.size _ _ _ rfl ((HOWN.out.alloc _).alloc _) (some ⟨wr.heap.size + 1, 0, none⟩) 1 1 (wr.heap.size + 1 + 1) [.slice xA xr.length xk, .int .i64 (-xn)] rfl rfl (by exact Row.new' (wr.alloc _) _ _ (by simp) rfl (Nat.lt_succ_self _)) hone ?_ ?_ ?_ ?_; rotate_right; intro v7 w7 hown7 hg7 hif7; rotate_left; (simp only [maxLen]; omega); (omega); (simp; omega))
      -- STOP-c
      have HOW7 := hid hown7
      have HG7 := hid hg7
      clear hown7 hg7 hif7 hone
      go_roundw
      case rel =>
        refine ⟨i + 1, by omega, by go_num, hid ?_, hid (Below.grown (alloc_below (alloc_below HB.out _) _) HG7.out (by simp; omega) (fun g e => (HOWN.out.lt g e).1))⟩
        rw [HFI.out, rcells_app, List.length_append]
        simpa using HOW7.out
      case measure => simp [intOf]; omega
    · have hik : i = M.length := by omega
      subst hik
      rw [List.take_length] at HOWN ⊢
      clear hOl
      go_wp2_with fail
      go_ret
      exact ⟨A5, c5, rfl, Row.of_ownS HOWN.out, HB.out⟩

def pickN (l : List Int) (r : List Int) (j : Nat) : List Int := (l.take j).map (fun i => colD r i)
theorem pickN_succ (l r : List Int) (j : Nat) (h : j < l.length) : pickN l r (j + 1) = pickN l r j ++ [colD r l[j]] := by
  unfold pickN
  rw [List.take_succ_eq_append_getElem h, List.map_append]; rfl
theorem pickN_len (l r : List Int) (j : Nat) (h : j ≤ l.length) : (pickN l r j).length = j := by
  unfold pickN
  rw [List.length_map, List.length_take]; omega

set_option maxHeartbeats 1000000 in
set_option maxRecDepth 100000 in
theorem pick_any (x : SR) (M : List IR) (A : Option Addr) (c : Nat) (w : World) (hr : RowI w w.heap.size A M) (hl : M.length ≤ 1048576) (hx : Row w w.heap.size x.A (icells' x.st.list)) (hxl : x.st.list.length ≤ 8) (hc : ∀ n ∈ x.st.list, 0 ≤ n ∧ ∀ y ∈ M, n < (y.row.length : Int)) :
    Calls Tryz.prog 105 #[.agg x.cells.toArray, .slice A M.length c] w (LiPost (pickL x.st (its M)) w) := by
  obtain ⟨⟨sk, sa, sb, sc, so, sv, sl⟩, sA, sK⟩ := x
  simp only at hc hx hxl
  have HR := hid hr
  have HC := hid hc
  have HSL := hid hx
  have HP := hid (show pickL ⟨sk, sa, sb, sc, so, sv, sl⟩ (its M) = (its M).map (fun x => (pickN sl x.1 sl.length, x.2)) by
    unfold pickL pickR pickN
    rw [List.take_length])
  simp only [SR.cells]
  obtain ⟨X, hX⟩ : ∃ X, X = pickL ⟨sk, sa, sb, sc, so, sv, sl⟩ (its M) := ⟨_, rfl⟩
  rw [← hX] at HP ⊢
  clear hX hr hc hx
  obtain ⟨i1, hi0, hz0, hz1, hz2⟩ := info_parts info_intQ
  obtain ⟨W1, hW1⟩ : ∃ W1 : World, W1 = w.alloc (.cells #[.int .i64 sk, .int .i64 sa, .int .i64 sb, .int .i64 sc, .int .i64 so, .int .i64 sv, .slice sA sl.length sK] 89) := ⟨_, rfl⟩
  have HX := hid (show Blk W1 w.heap.size #[.int .i64 sk, .int .i64 sa, .int .i64 sb, .int .i64 sc, .int .i64 so, .int .i64 sv, .slice sA sl.length sK] 89 by rw [hW1]; exact Blk.new _ _ _)
  have HB1 := hid (show Below w.heap.size w W1 by rw [hW1]; (repeat' (first | (with_reducible exact Below.refl _ _) | (with_reducible assumption) | (with_reducible refine below_drewN ?_ _) | (with_reducible refine Below.drew ?_) | (with_reducible refine Below.alloc ?_ ?_ _) | (with_reducible refine Below.setCell ?_ ?_ _) | (refine Below.trans ?_ (Below.mono (by assumption) ?_)) | go_size)))
  have hs1 := HB1.out.size
  go_enter Tryz.func105, Tryz.ntmps105
  go_wp2_with fail
  rw [← hW1]
  clear hW1
  go_loopw [5, 13] (fun s5 s13 wr => ∃ (i : Nat) (S : List IR), i ≤ M.length ∧ s13 = .int .i64 i ∧ S.length = i ∧ Hid (its S = (its (M.take i)).map (fun x => (pickN sl x.1 sl.length, x.2))) ∧ Hid (wr.ownsRow W1.heap.size 67 2 s5 S.length (rcells S)) ∧ Hid (RowsNew wr W1.heap.size s5 S) ∧ Hid (Below W1.heap.size W1 wr)) (fun _ s13 _ => M.length - (intOf s13).toNat)
  case atStart => exact ⟨0, [], by omega, rfl, rfl, hid (by simp [its]), hid (World.ownsRow_nil _ _ _ _), hid (RowsNew.nil _ _ _), hid (Below.refl _ _)⟩
  case round =>
    obtain ⟨i, S, hi, rfl, hSi, HIS, HOWN, HNEW, HB⟩ := hrel
    obtain ⟨A5, c5, rfl⟩ := own_formS HOWN.out
    have hsw := HB.out.size
    have HSI := hid hSi
    have hSl : S.length ≤ 1048576 := by omega
    clear hSi
    have HBW := hid (Below.step' HB1.out HB.out)
    by_cases hlt : i < M.length
    · obtain ⟨b, off, rfl, hb, e0, e1⟩ := (HR.out.1.step HBW.out).it hlt
      have HXR := hid (((HR.out.2.step HBW.out) M[i] (List.getElem_mem hlt)).1)
      have HCX := hid (fun n hn => (show 0 ≤ n ∧ n < (M[i].row.length : Int) from ⟨(HC.out n hn).1, (HC.out n hn).2 M[i] (List.getElem_mem hlt)⟩))
      have HST := hid (show (its (M.take (i + 1))).map (fun x => (pickN sl x.1 sl.length, x.2)) = (its (M.take i)).map (fun x => (pickN sl x.1 sl.length, x.2)) ++ [(pickN sl M[i].row sl.length, M[i].n)] by
        rw [List.take_succ_eq_append_getElem hlt, its, List.map_append, List.map_append]; rfl)
      generalize M[i] = x at *
      obtain ⟨xr, xA, xk, xn⟩ := x
      simp only at e0 e1 HXR HCX HST
      have hneb : (b = wr.heap.size) = False := by simp; omega
      obtain ⟨wo, rfl⟩ : ∃ wx : World, wx = wr := ⟨_, rfl⟩
      obtain ⟨W2, hW2⟩ : ∃ W2 : World, W2 = wo.alloc (.cells #[.slice xA xr.length xk, .int .i64 xn] 67) := ⟨_, rfl⟩
      have HX2 := hid (show Blk W2 wo.heap.size #[.slice xA xr.length xk, .int .i64 xn] 67 by rw [hW2]; exact Blk.new _ _ _)
      have HBO := hid (show Below wo.heap.size wo W2 by rw [hW2]; exact alloc_below (Below.refl _ _) _)
      have hs2 := HBO.out.size
      have HXO := hid ((HX.out.step HB.out).step HBO.out)
      go_upto_region 6 with fail
      rw [← hW2]
      clear hW2 e0 e1
      obtain ⟨cHXO, fHXO, sHXO, nHXO⟩ := HXO.out.all
      try simp only [cbox] at cHXO
      go_wp2_with fail
      clear cHXO fHXO sHXO nHXO
      -- STOP-a
      go_loopw [8, 20] (fun s8 s20 wr => ∃ j : Nat, j ≤ sl.length ∧ s20 = .int .i64 j ∧ Hid (wr.ownsRow W2.heap.size 3 1 s8 (pickN sl xr j).length (icells' (pickN sl xr j))) ∧ Hid (Below W2.heap.size W2 wr)) (fun _ s20 _ => sl.length - (intOf s20).toNat)
      case atStart => exact ⟨0, by omega, rfl, hid (by simpa [pickN] using World.ownsRow_nil _ _ _ _), hid (Below.refl _ _)⟩
      case round =>
        obtain ⟨j, hj, rfl, HR8, HBI⟩ := hrel
        obtain ⟨wi, rfl⟩ : ∃ wx : World, wx = wr := ⟨_, rfl⟩
        obtain ⟨A8, c8, rfl⟩ := own_formS HR8.out
        have hsi := HBI.out.size
        have hPl := pickN_len sl xr j hj
        have HX2I := hid (HX2.out.step HBI.out)
        by_cases hjl : j < sl.length
        · have HBT := hid (Below.step' HBW.out (Below.step' HBO.out HBI.out))
          obtain ⟨bs', os', rfl, hbs, hvs⟩ := (HSL.out.step HBT.out).int' hjl
          obtain ⟨n0, n1⟩ := HCX.out sl[j] (List.getElem_mem hjl)
          have HPS := hid (pickN_succ sl xr j hjl)
          generalize sl[j] = n at *
          obtain ⟨jn, rfl⟩ : ∃ jn : Nat, n = (jn : Int) := ⟨n.toNat, by omega⟩
          have hjn : jn < xr.length := by omega
          obtain ⟨bx, ox, rfl, hbx, hvx⟩ := (HXR.out.step (Below.step' HBO.out HBI.out)).int' hjn
          have hcd : colD xr jn = xr[jn] := by unfold colD; rw [Int.toNat_natCast, List.getD_eq_getElem?_getD, List.getElem?_eq_getElem hjn]; rfl
          rw [hcd] at HPS
          generalize xr[jn] = u at *
          have hjl2 : (jn : Int) < (xr.length : Int) := by omega
          obtain ⟨P, hP⟩ : ∃ P, P = pickN sl xr j := ⟨_, rfl⟩
          rw [← hP] at HR8 HPS hPl ⊢
          have HPL := hid hPl
          have hPle : P.length ≤ 8 := by omega
          clear hcd hP hPl n0 n1
          obtain ⟨cHX2I, fHX2I, sHX2I, nHX2I⟩ := HX2I.out.all
          try simp only [cbox] at cHX2I
          go_wp2_with (at_builtin; refine wpList_append_own _ rfl _ _ 30 rfl W2.heap.size 3 i1 _ 1 8 Tryz.underlying30 hi0 hz0 hz1 hz2 rfl (by decide) _ _ _ rfl (HR8.out.alloc _) ⟨wi.heap.size, 0, none⟩ 1 1 (icells' [u]) rfl rfl (news_at _ [.int .i64 u] _ _ rfl) (icellsQ_one _) ?_ ?_ ?_ ?_; rotate_right; intro v6 w6 hown6 hg6 _; rotate_left; (simp only [maxLen]; omega); (omega); (simp; omega))
          -- STOP-b
          have HOW6 := hid hown6
          have HG6 := hid hg6
          clear hown6 hg6
          go_roundw
          case rel =>
            refine ⟨j + 1, by omega, by go_num, hid ?_, hid (Below.grown (alloc_below HBI.out _) HG6.out (by simp; omega) (fun g e => (HR8.out.lt g e).1))⟩
            rw [HPS.out, icellsQ_snoc, List.length_append]
            simpa using HOW6.out
          case measure => simp [intOf]; omega
        · have hje : j = sl.length := by omega
          subst hje
          have HOW8 := hid (own_laterS (HOWN.out) (Below.step' HBO.out HBI.out))
          have HNEW8 := hid (HNEW.out.step (Below.step' HBO.out HBI.out))
          obtain ⟨P, hP⟩ : ∃ P, P = pickN sl xr sl.length := ⟨_, rfl⟩
          rw [← hP] at HR8 HST hPl ⊢
          have HPL := hid hPl
          have hPle : P.length ≤ 8 := by omega
          clear hP hPl
          have hone : ∀ u ∈ ([.slice A8 P.length c8, .int .i64 xn] : List Value), u.oneCell' = true := by
            intro u hu
            simp only [List.mem_cons, List.not_mem_nil, or_false] at hu
            rcases hu with rfl | rfl <;> rfl
          obtain ⟨cHX2I, fHX2I, sHX2I, nHX2I⟩ := HX2I.out.all
          try simp only [cbox] at cHX2I
          go_wp2_with (at_builtin; refine wpList_append_row elem_item rfl _ _ rfl W1.heap.size _ _ _ rfl (HOW8.out.alloc _) (some ⟨wi.heap.size, 0, none⟩) 1 1 (wi.heap.size + 1) [.slice A8 P.length c8, .int .i64 xn] rfl rfl (Row.new' _ _ _ rfl rfl (Nat.lt_succ_self _)) hone ?_ ?_ ?_ ?_; rotate_right; intro v7 w7 hown7 hg7 hif7; rotate_left; (simp only [maxLen]; omega); (omega); (simp; omega))
          -- STOP-c
          clear cHX2I fHX2I sHX2I nHX2I
          have HNEW9 := hid ((HNEW8.out.step (alloc_below (Below.refl _ _) (.cells #[.slice A8 P.length c8, .int .i64 xn] 67))).grown hg7 hif7)
          have HROW9 := hid ((RowOwn.of_own HR8.out rfl).step (alloc_below (Below.refl _ _) (.cells #[.slice A8 P.length c8, .int .i64 xn] 67)))
          have HIN : Hid (∀ b off q, A8 = some ⟨b, off, q⟩ → W2.heap.size ≤ b ∧ b < wi.heap.size) := hid (fun b off q e => HR8.out.lt b (by rw [e]; rfl))
          have hA8 : ∀ b off q, A8 = some ⟨b, off, q⟩ → some b ≠ (Value.slice A5 S.length c5).ownBlock := fun b off q e e2 => by
            have q1 := (HIN.out b off q e).1
            have q2 := (HOWN.out.lt b e2.symm).2
            omega
          have HA8 := hid hA8
          have HIF := hid hif7
          have HG7 := hid hg7
          have HOWN9 := hid hown7
          clear hown7 hg7 hif7 hA8 hone
          go_roundw
          case rel =>
            have hr9 := (HROW9.out.grown_ne (Nat.le_refl _) HG7.out HA8.out).more HG7.out.size
            refine ⟨i + 1, S ++ [⟨P, A8, c8, xn⟩], by omega, by go_num, by have := HSI.out; simp; omega, hid ?_, hid ?_, hid ?_, hid (((HB.out.trans ((Below.step' HBO.out HBI.out).mono hsw)).alloc (by omega) (.cells #[.slice A8 P.length c8, .int .i64 xn] 67)).grown HG7.out (by simp; omega) (fun g e => (HOW8.out.lt g e).1))⟩
            · rw [HST.out, ← HIS.out]
              show (S ++ [(⟨P, A8, c8, xn⟩ : IR)]).map IR.it = _
              rw [List.map_append]; rfl
            · rw [rcells_snoc, List.length_append]
              exact HOWN9.out
            · refine RowsNew.snoc HNEW9.out (x := (⟨P, A8, c8, xn⟩ : IR)) hr9 (fun b off q e => by have := (HIN.out b off q e).1; omega) (fun b off q e => ?_) (by simp only; omega)
              have hlt9 := (HIN.out b off q e).2
              have hsz7 := HG7.out.size
              simp at hsz7
              refine ⟨?_, by omega⟩
              rcases HIF.out with h | h
              · rw [h]; exact HA8.out b off q e
              · rw [h]; intro e2; injection e2 with e2; simp at e2; omega
          case measure => simp [intOf]; omega
    · have hik : i = M.length := by omega
      subst hik
      rw [List.take_length] at HIS
      go_wp2_with fail
      -- STOP-d
      go_ret
      exact ⟨A5, c5, S, rfl, by rw [HIS.out, HP.out], ⟨Row.of_ownS HOWN.out, HNEW.out.rows⟩, HBW.out⟩
end Go.Proofs.YtldlmkfigjicgaaGreatDoor
/- plain.Linear. -/
namespace Go.Proofs.YtldlmkfigjicgaaGreatDoor
set_option linter.unusedVariables false
set_option linter.unusedSimpArgs false
open Go.ChangeShapes Go.WideShapes Go.ChangeAt Go.RowKit

/-- Items, wherever their rows lie, and whether. -/
def LinPost (S : List It) (b : Bool) (w : World) (e : Ending) (w' : World) : Prop :=
  ∃ (A : Option Addr) (k : Nat) (M : List IR), e = .returned (.tuple #[.slice A M.length k, .bool b]) ∧ its M = S ∧ RowI w' w'.heap.size A M ∧ Below w.heap.size w w'
theorem linPost_mk {S : List It} {w w' : World} {A : Option Addr} {k : Nat} {M : List IR} {b : Bool} (h1 : its M = S) (h2 : RowI w' w'.heap.size A M) (h3 : Below w.heap.size w w') : LinPost S b w (.returned (.tuple #[.slice A M.length k, .bool b])) w' := ⟨A, k, M, rfl, h1, h2, h3⟩
theorem linPost_nil {S : List It} {w w' : World} {b : Bool} (h1 : S = []) (h3 : Below w.heap.size w w') : LinPost S b w (.returned (.tuple #[.slice none 0 0, .bool b])) w' := by
  subst h1; exact ⟨none, 0, [], rfl, rfl, RowI.nil, h3⟩
/-- What a step that is linear asks of its lists. -/
def LinOk (s : St) (A B : List It) : Prop :=
  (s.kind = 2 → 0 ≤ s.col ∧ ∀ y ∈ A, s.col < (y.1.length : Int)) ∧ (s.kind = 3 → s.list.length ≤ 8 ∧ ∀ n ∈ s.list, 0 ≤ n ∧ ∀ y ∈ A, n < (y.1.length : Int)) ∧ (s.kind = 6 → ∀ y ∈ B, -2097152 ≤ y.2 ∧ y.2 ≤ 2097152)


set_option maxHeartbeats 1000000 in
set_option maxRecDepth 100000 in
theorem lin_k2 (sa sb sc so sv : Int) (sl : List Int) (sA : Option Addr) (sK : Nat) (M1 M2 : List IR) (A1 A2 : Option Addr) (c1 c2 : Nat) (w : World) (hs : Row w w.heap.size sA (icells' sl)) (h1 : RowI w w.heap.size A1 M1) (l1 : M1.length ≤ 800) (h2 : RowI w w.heap.size A2 M2) (l2 : M2.length ≤ 800) (hok : LinOk ⟨2, sa, sb, sc, so, sv, sl⟩ (its M1) (its M2)) :
    Calls Tryz.prog 84 #[.agg #[.int .i64 2, .int .i64 sa, .int .i64 sb, .int .i64 sc, .int .i64 so, .int .i64 sv, .slice sA sl.length sK], .slice A1 M1.length c1, .slice A2 M2.length c2] w (LinPost (linL ⟨2, sa, sb, sc, so, sv, sl⟩ (its M1) (its M2)) (linB ⟨2, sa, sb, sc, so, sv, sl⟩) w) := by
  obtain ⟨hk2, hk3, hk6⟩ := hok
  rw [show linL ⟨2, sa, sb, sc, so, sv, sl⟩ (its M1) (its M2) = whereL ⟨2, sa, sb, sc, so, sv, sl⟩ (its M1) by unfold linL; simp, show linB ⟨2, sa, sb, sc, so, sv, sl⟩ = true from rfl]
  have HB1 : Hid (Below w.heap.size w (w.alloc (.cells #[.int .i64 2, .int .i64 sa, .int .i64 sb, .int .i64 sc, .int .i64 so, .int .i64 sv, .slice sA sl.length sK] 89))) := hid (alloc_below (Below.refl _ _) _)
  have HC := hid (where_any ⟨⟨2, sa, sb, sc, so, sv, sl⟩, sA, sK⟩ M1 A1 c1 (w.alloc (.cells #[.int .i64 2, .int .i64 sa, .int .i64 sb, .int .i64 sc, .int .i64 so, .int .i64 sv, .slice sA sl.length sK] 89)) (h1.step HB1.out) (by omega) ⟨(hk2 rfl).1, fun y hy => (hk2 rfl).2 y.it (List.mem_map.2 ⟨y, hy, rfl⟩)⟩)
  simp only [SR.cells] at HC
  clear h1 h2 hk2 hk3 hk6 hs
  go_enter Tryz.func84, Tryz.ntmps84
  go_wp2_with fail
  refine HC.out.mono ?_
  rintro e w1 ⟨A3, k3, M3, rfl, hi3, hr3, hb3⟩
  have hB := Below.step' HB1.out hb3
  have HI := hid hi3
  have HR := hid hr3
  have HB := hid hB
  clear hi3 hr3 hb3 hB
  go_wp2_with fail
  go_ret2
  exact linPost_mk HI.out HR.out HB.out
set_option maxHeartbeats 1000000 in
set_option maxRecDepth 100000 in
theorem lin_k3 (sa sb sc so sv : Int) (sl : List Int) (sA : Option Addr) (sK : Nat) (M1 M2 : List IR) (A1 A2 : Option Addr) (c1 c2 : Nat) (w : World) (hs : Row w w.heap.size sA (icells' sl)) (h1 : RowI w w.heap.size A1 M1) (l1 : M1.length ≤ 800) (h2 : RowI w w.heap.size A2 M2) (l2 : M2.length ≤ 800) (hok : LinOk ⟨3, sa, sb, sc, so, sv, sl⟩ (its M1) (its M2)) :
    Calls Tryz.prog 84 #[.agg #[.int .i64 3, .int .i64 sa, .int .i64 sb, .int .i64 sc, .int .i64 so, .int .i64 sv, .slice sA sl.length sK], .slice A1 M1.length c1, .slice A2 M2.length c2] w (LinPost (linL ⟨3, sa, sb, sc, so, sv, sl⟩ (its M1) (its M2)) (linB ⟨3, sa, sb, sc, so, sv, sl⟩) w) := by
  obtain ⟨hk2, hk3, hk6⟩ := hok
  rw [show linL ⟨3, sa, sb, sc, so, sv, sl⟩ (its M1) (its M2) = pickL ⟨3, sa, sb, sc, so, sv, sl⟩ (its M1) by unfold linL; simp, show linB ⟨3, sa, sb, sc, so, sv, sl⟩ = true from rfl]
  have HB1 : Hid (Below w.heap.size w (w.alloc (.cells #[.int .i64 3, .int .i64 sa, .int .i64 sb, .int .i64 sc, .int .i64 so, .int .i64 sv, .slice sA sl.length sK] 89))) := hid (alloc_below (Below.refl _ _) _)
  have HC := hid (pick_any ⟨⟨3, sa, sb, sc, so, sv, sl⟩, sA, sK⟩ M1 A1 c1 (w.alloc (.cells #[.int .i64 3, .int .i64 sa, .int .i64 sb, .int .i64 sc, .int .i64 so, .int .i64 sv, .slice sA sl.length sK] 89)) (h1.step HB1.out) (by omega) (hs.step HB1.out) (hk3 rfl).1 fun n hn => ⟨((hk3 rfl).2 n hn).1, fun y hy => ((hk3 rfl).2 n hn).2 y.it (List.mem_map.2 ⟨y, hy, rfl⟩)⟩)
  simp only [SR.cells] at HC
  clear h1 h2 hk2 hk3 hk6 hs
  go_enter Tryz.func84, Tryz.ntmps84
  go_wp2_with fail
  refine HC.out.mono ?_
  rintro e w1 ⟨A3, k3, M3, rfl, hi3, hr3, hb3⟩
  have hB := Below.step' HB1.out hb3
  have HI := hid hi3
  have HR := hid hr3
  have HB := hid hB
  clear hi3 hr3 hb3 hB
  go_wp2_with fail
  go_ret2
  exact linPost_mk HI.out HR.out HB.out
set_option maxHeartbeats 1000000 in
set_option maxRecDepth 100000 in
theorem lin_k5 (sa sb sc so sv : Int) (sl : List Int) (sA : Option Addr) (sK : Nat) (M1 M2 : List IR) (A1 A2 : Option Addr) (c1 c2 : Nat) (w : World) (hs : Row w w.heap.size sA (icells' sl)) (h1 : RowI w w.heap.size A1 M1) (l1 : M1.length ≤ 800) (h2 : RowI w w.heap.size A2 M2) (l2 : M2.length ≤ 800) (hok : LinOk ⟨5, sa, sb, sc, so, sv, sl⟩ (its M1) (its M2)) :
    Calls Tryz.prog 84 #[.agg #[.int .i64 5, .int .i64 sa, .int .i64 sb, .int .i64 sc, .int .i64 so, .int .i64 sv, .slice sA sl.length sK], .slice A1 M1.length c1, .slice A2 M2.length c2] w (LinPost (linL ⟨5, sa, sb, sc, so, sv, sl⟩ (its M1) (its M2)) (linB ⟨5, sa, sb, sc, so, sv, sl⟩) w) := by
  obtain ⟨hk2, hk3, hk6⟩ := hok
  rw [show linL ⟨5, sa, sb, sc, so, sv, sl⟩ (its M1) (its M2) = its M1 ++ its M2 by unfold linL; simp, show linB ⟨5, sa, sb, sc, so, sv, sl⟩ = true from rfl]
  have HB1 : Hid (Below w.heap.size w (w.alloc (.cells #[.int .i64 5, .int .i64 sa, .int .i64 sb, .int .i64 sc, .int .i64 so, .int .i64 sv, .slice sA sl.length sK] 89))) := hid (alloc_below (Below.refl _ _) _)
  have HCL := hid (cloneIt_any M1 A1 c1 (w.alloc (.cells #[.int .i64 5, .int .i64 sa, .int .i64 sb, .int .i64 sc, .int .i64 so, .int .i64 sv, .slice sA sl.length sK] 89)) (h1.1.step HB1.out) (by omega))
  have HR1 := hid h1
  have HR2 := hid h2
  clear h1 h2 hk2 hk3 hk6 hs
  go_enter Tryz.func84, Tryz.ntmps84
  go_wp2_with fail
  refine HCL.out.mono ?_
  rintro e w1 ⟨v1, rfl, hown1, hb1⟩
  obtain ⟨A3, k3, rfl⟩ := own_formS hown1
  have hB1 := Below.step' HB1.out hb1
  have HO := hid (own_baseS hown1 HB1.out.size)
  have HB := hid hB1
  clear hb1 hB1 hown1
  have HRM := hid ((HR2.out.step HB.out).1)
  have h2l := rcells_len M2
  go_wp2_with (at_builtin; refine wpList_append_row elem_item rfl _ _ rfl w.heap.size _ M1.length (rcells M1) rfl HO.out A2 M2.length c2 w1.heap.size (rcells M2) rfl ?_ HRM.out ?_ ?_ ?_ ?_ ?_; rotate_right; intro v7 w7 hown7 hg7 hif7; rotate_left; (first | exact h2l | exact rcells_one _ | (simp only [maxLen]; omega) | omega | exact HB.out.size); (first | exact h2l | exact rcells_one _ | (simp only [maxLen]; omega) | omega | exact HB.out.size); (first | exact h2l | exact rcells_one _ | (simp only [maxLen]; omega) | omega | exact HB.out.size); (first | exact h2l | exact rcells_one _ | (simp only [maxLen]; omega) | omega | exact HB.out.size); (first | exact h2l | exact rcells_one _ | (simp only [maxLen]; omega) | omega | exact HB.out.size))
  -- STOP-u
  have HOW7 := hid hown7
  have HG7 := hid hg7
  clear hown7 hg7 hif7
  obtain ⟨A7, k7, rfl⟩ := own_formS HOW7.out
  have HB7 := hid (HB.out.grown HG7.out HB.out.size (fun g e => (HO.out.lt g e).1))
  have hlen : M1.length + M2.length = (M1 ++ M2).length := (List.length_append ..).symm
  have HOF := HOW7.out
  rw [← rcells_app, hlen] at HOF
  have HOQ := hid HOF
  clear HOF
  rw [hlen]
  clear hlen
  go_wp2_with fail
  go_ret2
  exact linPost_mk (by rw [its, List.map_append]) ⟨Row.of_ownS HOQ.out, (HR1.out.2.step HB7.out).app (HR2.out.2.step HB7.out)⟩ HB7.out
set_option maxHeartbeats 1000000 in
set_option maxRecDepth 100000 in
theorem lin_k6 (sa sb sc so sv : Int) (sl : List Int) (sA : Option Addr) (sK : Nat) (M1 M2 : List IR) (A1 A2 : Option Addr) (c1 c2 : Nat) (w : World) (hs : Row w w.heap.size sA (icells' sl)) (h1 : RowI w w.heap.size A1 M1) (l1 : M1.length ≤ 800) (h2 : RowI w w.heap.size A2 M2) (l2 : M2.length ≤ 800) (hok : LinOk ⟨6, sa, sb, sc, so, sv, sl⟩ (its M1) (its M2)) :
    Calls Tryz.prog 84 #[.agg #[.int .i64 6, .int .i64 sa, .int .i64 sb, .int .i64 sc, .int .i64 so, .int .i64 sv, .slice sA sl.length sK], .slice A1 M1.length c1, .slice A2 M2.length c2] w (LinPost (linL ⟨6, sa, sb, sc, so, sv, sl⟩ (its M1) (its M2)) (linB ⟨6, sa, sb, sc, so, sv, sl⟩) w) := by
  obtain ⟨hk2, hk3, hk6⟩ := hok
  rw [show linL ⟨6, sa, sb, sc, so, sv, sl⟩ (its M1) (its M2) = its M1 ++ negL (its M2) by unfold linL; simp, show linB ⟨6, sa, sb, sc, so, sv, sl⟩ = true from rfl]
  have HB1 : Hid (Below w.heap.size w (w.alloc (.cells #[.int .i64 6, .int .i64 sa, .int .i64 sb, .int .i64 sc, .int .i64 so, .int .i64 sv, .slice sA sl.length sK] 89))) := hid (alloc_below (Below.refl _ _) _)
  have HCL := hid (cloneIt_any M1 A1 c1 (w.alloc (.cells #[.int .i64 6, .int .i64 sa, .int .i64 sb, .int .i64 sc, .int .i64 so, .int .i64 sv, .slice sA sl.length sK] 89)) (h1.1.step HB1.out) (by omega))
  have HR1 := hid h1
  have HR2 := hid h2
  have HNG := hid (fun w1 (hb : Below w.heap.size w w1) => pneg_any M2 A2 c2 w1 (h2.step hb) (by omega) fun y hy => hk6 rfl y.it (List.mem_map.2 ⟨y, hy, rfl⟩))
  clear h1 h2 hk2 hk3 hk6 hs
  go_enter Tryz.func84, Tryz.ntmps84
  go_wp2_with fail
  refine HCL.out.mono ?_
  rintro e w1 ⟨v1, rfl, hown1, hb1⟩
  obtain ⟨A3, k3, rfl⟩ := own_formS hown1
  have hB1 := Below.step' HB1.out hb1
  have HO := hid (own_baseS hown1 HB1.out.size)
  have HB := hid hB1
  clear hb1 hB1 hown1
  go_wp2_with fail
  refine (HNG.out _ HB.out).mono ?_
  rintro e w2 ⟨A4, k4, rfl, hr4, hb4⟩
  have hi4 := negM_its M2
  have HNR := hid (fun w3 (hb : Below w.heap.size w w3) => negM_rows (HR2.out.2.step hb))
  obtain ⟨M4, hM4⟩ : ∃ q, q = negM M2 := ⟨_, rfl⟩
  rw [← hM4] at hi4 hr4 HNR ⊢
  clear hM4
  replace HO := hid (own_laterS HO.out hb4)
  replace HB := hid (Below.step' HB.out hb4)
  have HRM := hid hr4
  have HI4 := hid hi4
  have l4 : M4.length ≤ 800 := by rw [← its_len, hi4]; unfold negL; rw [List.length_map, its_len]; exact l2
  clear hi4 hr4 hb4
  have h2l := rcells_len M4
  go_wp2_with (at_builtin; refine wpList_append_row elem_item rfl _ _ rfl w.heap.size _ M1.length (rcells M1) rfl HO.out A4 M4.length k4 w2.heap.size (rcells M4) rfl ?_ HRM.out ?_ ?_ ?_ ?_ ?_; rotate_right; intro v7 w7 hown7 hg7 hif7; rotate_left; (first | exact h2l | exact rcells_one _ | (simp only [maxLen]; omega) | omega | exact HB.out.size); (first | exact h2l | exact rcells_one _ | (simp only [maxLen]; omega) | omega | exact HB.out.size); (first | exact h2l | exact rcells_one _ | (simp only [maxLen]; omega) | omega | exact HB.out.size); (first | exact h2l | exact rcells_one _ | (simp only [maxLen]; omega) | omega | exact HB.out.size); (first | exact h2l | exact rcells_one _ | (simp only [maxLen]; omega) | omega | exact HB.out.size))
  -- STOP-m
  have HOW7 := hid hown7
  have HG7 := hid hg7
  clear hown7 hg7 hif7
  obtain ⟨A7, k7, rfl⟩ := own_formS HOW7.out
  have HB7 := hid (HB.out.grown HG7.out HB.out.size (fun g e => (HO.out.lt g e).1))
  have hlen : M1.length + M4.length = (M1 ++ M4).length := (List.length_append ..).symm
  have HOF := HOW7.out
  rw [← rcells_app, hlen] at HOF
  have HOQ := hid HOF
  clear HOF
  rw [hlen]
  clear hlen
  go_wp2_with fail
  go_ret2
  exact linPost_mk (by rw [its, List.map_append, show M4.map IR.it = negL (its M2) from HI4.out]) ⟨Row.of_ownS HOQ.out, (HR1.out.2.step HB7.out).app (HNR.out _ HB7.out)⟩ HB7.out
set_option maxHeartbeats 1000000 in
set_option maxRecDepth 100000 in
theorem lin_k0 (sk sa sb sc so sv : Int) (sl : List Int) (sA : Option Addr) (sK : Nat) (M1 M2 : List IR) (A1 A2 : Option Addr) (c1 c2 : Nat) (w : World) (hs : Row w w.heap.size sA (icells' sl)) (h1 : RowI w w.heap.size A1 M1) (l1 : M1.length ≤ 800) (h2 : RowI w w.heap.size A2 M2) (l2 : M2.length ≤ 800) (hok : LinOk ⟨sk, sa, sb, sc, so, sv, sl⟩ (its M1) (its M2)) (hk : sk ≠ 2 ∧ sk ≠ 3 ∧ sk ≠ 5 ∧ sk ≠ 6) :
    Calls Tryz.prog 84 #[.agg #[.int .i64 sk, .int .i64 sa, .int .i64 sb, .int .i64 sc, .int .i64 so, .int .i64 sv, .slice sA sl.length sK], .slice A1 M1.length c1, .slice A2 M2.length c2] w (LinPost (linL ⟨sk, sa, sb, sc, so, sv, sl⟩ (its M1) (its M2)) (linB ⟨sk, sa, sb, sc, so, sv, sl⟩) w) := by
  obtain ⟨hk2, hk3, hk6⟩ := hok
  have HB1 : Hid (Below w.heap.size w (w.alloc (.cells #[.int .i64 sk, .int .i64 sa, .int .i64 sb, .int .i64 sc, .int .i64 so, .int .i64 sv, .slice sA sl.length sK] 89))) := hid (alloc_below (Below.refl _ _) _)
  obtain ⟨k2, k3, k5, k6⟩ := hk
  have e2 : (sk == 2) = false := by simpa using k2
  have e3 : (sk == 3) = false := by simpa using k3
  have e5 : (sk == 5) = false := by simpa using k5
  have e6 : (sk == 6) = false := by simpa using k6
  have hz : linL ⟨sk, sa, sb, sc, so, sv, sl⟩ (its M1) (its M2) = [] := by unfold linL; simp [k2, k3, k5, k6]
  have hb : linB ⟨sk, sa, sb, sc, so, sv, sl⟩ = false := by unfold linB; simp [k2, k3, k5, k6]
  rw [hz, hb]
  clear hz hb h1 h2 hs hk2 hk3 hk6
  go_enter Tryz.func84, Tryz.ntmps84
  go_wp2_with fail
  go_ret2
  exact linPost_nil rfl HB1.out

theorem linear_any (x : SR) (M1 M2 : List IR) (A1 A2 : Option Addr) (c1 c2 : Nat) (w : World) (hs : Row w w.heap.size x.A (icells' x.st.list)) (h1 : RowI w w.heap.size A1 M1) (l1 : M1.length ≤ 800) (h2 : RowI w w.heap.size A2 M2) (l2 : M2.length ≤ 800) (hok : LinOk x.st (its M1) (its M2)) :
    Calls Tryz.prog 84 #[.agg x.cells.toArray, .slice A1 M1.length c1, .slice A2 M2.length c2] w (LinPost (linL x.st (its M1) (its M2)) (linB x.st) w) := by
  obtain ⟨⟨sk, sa, sb, sc, so, sv, sl⟩, sA, sK⟩ := x
  simp only at hs hok
  by_cases k2 : sk = 2
  · subst k2; exact lin_k2 sa sb sc so sv sl sA sK M1 M2 A1 A2 c1 c2 w hs h1 l1 h2 l2 hok
  by_cases k3 : sk = 3
  · subst k3; exact lin_k3 sa sb sc so sv sl sA sK M1 M2 A1 A2 c1 c2 w hs h1 l1 h2 l2 hok
  by_cases k5 : sk = 5
  · subst k5; exact lin_k5 sa sb sc so sv sl sA sK M1 M2 A1 A2 c1 c2 w hs h1 l1 h2 l2 hok
  by_cases k6 : sk = 6
  · subst k6; exact lin_k6 sa sb sc so sv sl sA sK M1 M2 A1 A2 c1 c2 w hs h1 l1 h2 l2 hok
  exact lin_k0 sk sa sb sc so sv sl sA sK M1 M2 A1 A2 c1 c2 w hs h1 l1 h2 l2 hok ⟨k2, k3, k5, k6⟩
end Go.Proofs.YtldlmkfigjicgaaGreatDoor
