/- OpenS, RwB, QyB, QyC, RkB, RkC -/
import Derived.Test.YtldlmkfigjicgaaGreatDoorCk17
import Derived.Test.YtldlmkfigjicgaaGreatDoorCk20
import Derived.Test.YtldlmkfigjicgaaGreatDoorCk21
import Derived.Test.YtldlmkfigjicgaaGreatDoorCk04
import Derived.Test.YtldlmkfigjicgaaGreatDoorCk19
import Derived.Test.YtldlmkfigjicgaaGreatDoorCk11
import Derived.Test.YtldlmkfigjicgaaGreatDoorCk10
import Derived.Test.YtldlmkfigjicgaaGreatDoorCk05
import Derived.Shelf.SlSortCmp.NoneTotal
/- Arguments that are queries, as a claim reads them. -/
namespace Go.Proofs.YtldlmkfigjicgaaGreatDoor
set_option linter.unusedVariables false
set_option linter.unusedSimpArgs false
open Go.ChangeShapes Go.WideShapes Go.ChangeAt Go.RowKit Go.Deep

set_option maxRecDepth 100000 in
theorem open_step {H : Type} {enc : TypeId × Value → H} {w : World} {base n : Nat} {spare : Nat → Bool} {held : Bool} {cs : List Value} {x : DataW H × List MemPlace}
    (h : DataW.trod enc Tryz.prog w base spare held n 89 cs = some x) : ∃ z : SR, (Row w w.heap.size z.A (icells' z.st.list) ∧ z.st.list.length ≤ 9223372036854775807) ∧ cs = z.cells := by
  obtain ⟨xs, n', _, hx, hlen, hxl, hf⟩ := DataW.trod_struct Tryz.underlying89 h
  have c2 : Tryz.prog.cellsOf 89 = 7 := by kernel_rfl
  have c1 : Tryz.prog.cellsOf 30 = 1 := by kernel_rfl
  have c1' : Tryz.prog.cellsOf 3 = 1 := by kernel_rfl
  rw [c2] at hlen
  match cs, hlen with
  | [u0, u1, u2, u3, u4, u5, u6], _ =>
    match xs, hxl with
    | [y0, y1, y2, y3, y4, y5, y6], _ =>
      have h0 := hf 0 _ rfl
      have h1 := hf 1 _ rfl
      have h2 := hf 2 _ rfl
      have h3 := hf 3 _ rfl
      have h4 := hf 4 _ rfl
      have h5 := hf 5 _ rfl
      have h6 := hf 6 _ rfl
      simp only [List.getElem_toArray, List.getElem_cons_zero, List.getElem_cons_succ, List.getElem?_cons_zero, List.getElem?_cons_succ] at h0 h1 h2 h3 h4 h5 h6
      simp only [c1, c1', List.drop_zero, List.take_succ_cons, List.take_zero, List.drop_succ_cons] at h0 h1 h2 h3 h4 h5 h6
      obtain ⟨z0, e0, _⟩ := DataW.trod_int Tryz.underlying3 h0
      obtain ⟨z1, e1, _⟩ := DataW.trod_int Tryz.underlying3 h1
      obtain ⟨z2, e2, _⟩ := DataW.trod_int Tryz.underlying3 h2
      obtain ⟨z3, e3, _⟩ := DataW.trod_int Tryz.underlying3 h3
      obtain ⟨z4, e4, _⟩ := DataW.trod_int Tryz.underlying3 h4
      obtain ⟨z5, e5, _⟩ := DataW.trod_int Tryz.underlying3 h5
      obtain ⟨A, k, l, e6, r0, l0, -⟩ := open_ints_cells h6
      injection e0 with e0
      injection e1 with e1
      injection e2 with e2
      injection e3 with e3
      injection e4 with e4
      injection e5 with e5
      injection e6 with e6
      subst e0 e1 e2 e3 e4 e5 e6
      exact ⟨⟨⟨z0, z1, z2, z3, z4, z5, l⟩, A, k⟩, ⟨r0, l0⟩, rfl⟩
set_option maxRecDepth 100000 in
theorem arg_steps {H : Type} {enc : TypeId × Value → H} {w : World} {r : Reach} {b0 base : Nat} {spare : Nat → Bool} {held : Bool} {v : Value} {d : DataW H} {p : List MemPlace}
    (hv : Value.okWide Tryz.prog w r b0 43 v) (h : DataW.Trod enc Tryz.prog w base spare held 43 v d p) :
    ∃ (A : Option Addr) (k : Nat) (L : List SR), v = .slice A L.length k ∧ RowS w w.heap.size A L ∧ L.length ≤ 9223372036854775807 := by
  obtain ⟨a, n, c, rfl⟩ := okWide_slice Tryz.underlying43 hv
  obtain ⟨m, hm⟩ := h
  obtain ⟨A, k, L, e, hr, hq, hl, -⟩ := open_each (f := SR.cells) (Q := fun z : SR => Row w w.heap.size z.A (icells' z.st.list) ∧ z.st.list.length ≤ 9223372036854775807) SR.len (by decide) Tryz.underlying43 (by kernel_rfl) (fun n cs y hy => open_step hy) hm
  simp only [Value.cells, List.cons.injEq, and_true] at e
  exact ⟨A, k, L, e, ⟨hr, hq⟩, hl⟩
end Go.Proofs.YtldlmkfigjicgaaGreatDoor
/- viewref.Query, viewref.Based. -/
namespace Go.Proofs.YtldlmkfigjicgaaGreatDoor
set_option linter.unusedVariables false
set_option linter.unusedSimpArgs false
open Go.ChangeShapes Go.WideShapes Go.ChangeAt Go.RowKit

set_option maxHeartbeats 1000000 in
set_option maxRecDepth 100000 in
theorem Rquery_any (L : List SR) (A : Option Addr) (c : Nat) (w : World) (hr : RowS w w.heap.size A L) (hl : L.length ≤ 9223372036854775807) :
    Calls Tryz.prog 25 #[.slice A L.length c] w fun e w' => e = .returned (.int .i64 (queryE (sts L))) ∧ Below w.heap.size w w' := by
  have HE := hid (show queryE (sts L) = if L.length = 0 then 1 else if 8 < L.length then 2 else if widsL (sts L) [] = none then 1 else 0 by unfold queryE; rw [List.length_map])
  have HW := hid (fun h : L.length ≤ 8 => Rwidths_any L A c w hr h)
  clear hr
  obtain ⟨E, hE⟩ : ∃ q, q = queryE (sts L) := ⟨_, rfl⟩
  rw [← hE] at HE ⊢
  clear hE
  go_enter Tryz.func25, Tryz.ntmps25
  by_cases h0 : L.length = 0
  · have t1 : ((L.length : Int) == 0) = true := by simp [h0]
    have HD := hid (show E = 1 by rw [HE.out, if_pos h0])
    clear h0
    go_wp2_with fail
    go_ret
    exact ⟨ret_int HD.out.symm, Below.refl _ _⟩
  have t1 : ((L.length : Int) == 0) = false := by simpa using h0
  by_cases h8 : 8 < L.length
  · have t2 : ((8 : Int) < (L.length : Int)) = True := eq_true (by omega)
    have HD := hid (show E = 2 by rw [HE.out, if_neg h0, if_pos h8])
    clear h0 h8
    go_wp2_with fail
    go_ret
    exact ⟨ret_int HD.out.symm, Below.refl _ _⟩
  have t2 : ((8 : Int) < (L.length : Int)) = False := eq_false (by omega)
  have HD := hid (show E = if widsL (sts L) [] = none then 1 else 0 by rw [HE.out, if_neg h0, if_neg h8])
  have HC := hid (HW.out (by omega))
  clear h0 h8 HW HE
  go_wp2_with fail
  -- STOP-a
  refine HC.out.mono ?_
  rintro e w1 ⟨hb1, (⟨hn, rfl⟩ | ⟨V, v, hn, rfl, -⟩)⟩
  · have HB := hid hb1
    have HF := hid (show E = 1 by rw [HD.out, if_pos hn])
    clear hb1 hn HC
    go_wp2_with fail
    go_ret
    exact ⟨ret_int HF.out.symm, HB.out⟩
  · have HB := hid hb1
    have HF := hid (show E = 0 by rw [HD.out, hn, if_neg (by simp)])
    clear hb1 hn HC
    go_wp2_with fail
    go_ret
    exact ⟨ret_int HF.out.symm, HB.out⟩
def wideL (M : List IR) : Bool := (its M).any wideB
set_option maxHeartbeats 4000000 in
set_option maxRecDepth 100000 in
theorem Rbased_any (L : List SR) (M1 M2 : List IR) (A0 A1 A2 : Option Addr) (c0 c1 c2 : Nat) (w : World) (h0 : RowS w w.heap.size A0 L) (l0 : L.length ≤ 9223372036854775807) (r1 : RowI w w.heap.size A1 M1) (l1 : M1.length ≤ 9223372036854775807) (r2 : RowI w w.heap.size A2 M2) (l2 : M2.length ≤ 9223372036854775807) :
    Calls Tryz.prog 56 #[.slice A0 L.length c0, .slice A1 M1.length c1, .slice A2 M2.length c2] w fun e w' => e = .returned (.int .i64 (basesE (sts L) (its M1) (its M2))) ∧ Below w.heap.size w w' := by
  have HQ := hid (Rquery_any L A0 c0 w h0 l0)
  have HS1 := hid (fun w1 (hb : Below w.heap.size w w1) => Rset_any M1 A1 c1 w1 (r1.step hb) l1)
  have HS2 := hid (fun w1 (hb : Below w.heap.size w w1) => Rset_any M2 A2 c2 w1 (r2.step hb) l2)
  have HR1 := hid r1
  have HR2 := hid r2
  have HE := hid (show basesE (sts L) (its M1) (its M2) = if queryE (sts L) ≠ 0 then queryE (sts L) else if setI (its M1) ≠ 0 then setI (its M1) else if setI (its M2) ≠ 0 then setI (its M2) else if (wideL M1 || wideL M2) = true then 5 else 0 by
    unfold basesE wideL; rw [List.any_append])
  obtain ⟨E, hE⟩ : ∃ q, q = basesE (sts L) (its M1) (its M2) := ⟨_, rfl⟩
  rw [← hE] at HE ⊢
  obtain ⟨EQ, hEQ⟩ : ∃ q, q = queryE (sts L) := ⟨_, rfl⟩
  obtain ⟨S1, hS1⟩ : ∃ q, q = setI (its M1) := ⟨_, rfl⟩
  obtain ⟨S2, hS2⟩ : ∃ q, q = setI (its M2) := ⟨_, rfl⟩
  rw [← hEQ, ← hS1, ← hS2] at HE
  rw [← hEQ] at HQ
  rw [← hS1] at HS1
  rw [← hS2] at HS2
  clear hE hEQ hS1 hS2 h0 r1 r2
  go_enter Tryz.func56, Tryz.ntmps56
  go_wp2_with fail
  refine HQ.out.mono ?_
  rintro e w1 ⟨rfl, hb1⟩
  have HB1 := hid hb1
  clear hb1 HQ
  by_cases q0 : EQ = 0
  rotate_left
  · have t1 : (EQ != 0) = true := by simpa using q0
    have HD := hid (show E = EQ by rw [HE.out, if_pos q0])
    clear q0
    go_wp2_with fail
    go_ret
    exact ⟨ret_int HD.out.symm, HB1.out⟩
  subst q0
  go_wp2_with fail
  -- STOP-a
  refine (HS1.out w1 HB1.out).mono ?_
  rintro e w2 ⟨rfl, hb2⟩
  have HB2 := hid (Below.step' HB1.out hb2)
  clear hb2 HS1 HB1
  by_cases q1 : S1 = 0
  rotate_left
  · have t1 : (S1 != 0) = true := by simpa using q1
    have HD := hid (show E = S1 by rw [HE.out, if_neg (by simp), if_pos q1])
    clear q1
    go_wp2_with fail
    go_ret
    exact ⟨ret_int HD.out.symm, HB2.out⟩
  subst q1
  go_wp2_with fail
  refine (HS2.out w2 HB2.out).mono ?_
  rintro e w3 ⟨rfl, hb3⟩
  have HB3 := hid (Below.step' HB2.out hb3)
  clear hb3 HS2 HB2
  by_cases q2 : S2 = 0
  rotate_left
  · have t1 : (S2 != 0) = true := by simpa using q2
    have HD := hid (show E = S2 by rw [HE.out, if_neg (by simp), if_neg (by simp), if_pos q2])
    clear q2
    go_wp2_with fail
    go_ret
    exact ⟨ret_int HD.out.symm, HB3.out⟩
  subst q2
  have HD := hid (show E = if (wideL M1 || wideL M2) = true then 5 else 0 by rw [HE.out, if_neg (by simp), if_neg (by simp), if_neg (by simp)])
  obtain ⟨W, hW⟩ : ∃ W : World, W = w3.alloc (.cells #[.slice A1 M1.length c1, .slice A2 M2.length c2] 22) := ⟨_, rfl⟩
  have HBW := hid (show Below w3.heap.size w3 W by rw [hW]; exact alloc_below (Below.refl _ _) _)
  have HXB := hid (show Blk W w3.heap.size #[.slice A1 M1.length c1, .slice A2 M2.length c2] 22 by rw [hW]; exact Blk.new _ _ _)
  go_wp2_with fail
  -- STOP-b
  rw [← hW]
  clear hW HE
  have HWW := hid (Below.step' HB3.out HBW.out)
  go_loopw [32] (fun s32 wr => ∃ i : Nat, i ≤ 2 ∧ s32 = .int .i64 i ∧ Hid (1 ≤ i → wideL M1 = false) ∧ Hid (2 ≤ i → wideL M2 = false) ∧ wr = W) (fun s32 _ => 2 - (intOf s32).toNat)
  case atStart => exact ⟨0, by omega, rfl, hid (fun h => by omega), hid (fun h => by omega), rfl⟩
  case round =>
    obtain ⟨i, hi, rfl, HN1, HN2, rfl⟩ := hrel
    by_cases hlt : i < 2
    · have t1 : ((i : Int) < 2) = True := eq_true (by omega)
      obtain ⟨Mi, Ai, ci, hrow, hlen, hcell, hsel⟩ : ∃ (Mi : List IR) (Ai : Option Addr) (ci : Nat), RowI w w.heap.size Ai Mi ∧ Mi.length ≤ 9223372036854775807 ∧ wr.cell? ⟨w3.heap.size, i, none⟩ = some (.slice Ai Mi.length ci) ∧ (wideL Mi = true → (wideL M1 || wideL M2) = true) ∧ (wideL Mi = false → (1 ≤ i + 1 → wideL M1 = false) ∧ (2 ≤ i + 1 → wideL M2 = false)) := by
        rcases (by omega : i = 0 ∨ i = 1) with rfl | rfl
        · exact ⟨M1, A1, c1, HR1.out, l1, by rw [HXB.out.cells.1]; rfl, fun h => by rw [h]; rfl, fun h => ⟨fun _ => h, fun h2 => by omega⟩⟩
        · exact ⟨M2, A2, c2, HR2.out, l2, by rw [HXB.out.cells.1]; rfl, fun h => by rw [h, Bool.or_true], fun h => ⟨fun _ => HN1.out (by omega), fun _ => h⟩⟩
      have HSEL := hid hsel
      have HRI := hid (hrow.step HWW.out)
      clear hsel hrow HN1 HN2
      go_wp2_with fail
      -- STOP-c
      go_loopw [12] (fun s12 w' => ∃ j : Nat, j ≤ Mi.length ∧ s12 = .int .i64 j ∧ Hid (∀ q, (hq : q < Mi.length) → q < j → Mi[q].row.length = 4) ∧ w' = wr) (fun s12 _ => Mi.length - (intOf s12).toNat)
      case atStart => exact ⟨0, by omega, rfl, hid (fun q _ h => by omega), rfl⟩
      case round =>
        obtain ⟨j, hj, rfl, HNO, rfl⟩ := hrel
        by_cases hjl : j < Mi.length
        · have t2 : ((j : Int) < (Mi.length : Int)) = True := eq_true (by omega)
          obtain ⟨b, off, rfl, hb, g0, g1⟩ := HRI.out.1.it hjl
          have HWD := hid (fun h : Mi[j].row.length ≠ 4 => show wideL Mi = true from List.any_eq_true.2 ⟨Mi[j].it, List.mem_map.2 ⟨_, List.getElem_mem hjl, rfl⟩, by unfold wideB; simpa using h⟩)
          have HRL := hid (show ∃ n, n = Mi[j].row.length from ⟨_, rfl⟩)
          obtain ⟨n, hn⟩ := HRL.out
          have HNN := hid hn
          rw [← hn] at HWD
          rw [← hn] at g0
          clear hn HRL
          by_cases q4 : n = 4
          · have t3 : ((n : Int) != 4) = false := by simp [q4]
            have HN4 := hid (show Mi[j].row.length = 4 by rw [← HNN.out]; exact q4)
            clear q4
            generalize Mi[j].A = rA at *
            generalize Mi[j].k = rk at *
            go_wp2_with fail
            go_roundw
            case rel =>
              refine ⟨j + 1, by omega, by go_num, hid (fun q hq h => ?_), by first | rfl | trivial⟩
              by_cases e : q = j
              · subst e; exact HN4.out
              · exact HNO.out q hq (by omega)
            case measure => simp [intOf]; omega
          · have t3 : ((n : Int) != 4) = true := by simp only [bne_iff_ne, ne_eq]; omega
            have HF := hid (show E = 5 by rw [HD.out, if_pos (HSEL.out.1 (HWD.out q4))])
            clear q4
            generalize Mi[j].A = rA at *
            generalize Mi[j].k = rk at *
            go_wp2_with fail
            -- STOP-d
            go_ret
            exact ⟨ret_int HF.out.symm, HWW.out⟩
        · have t2 : ((j : Int) < (Mi.length : Int)) = False := eq_false (by omega)
          have HWN := hid (show wideL Mi = false from List.any_eq_false.2 fun x hx => by
            obtain ⟨y, hy, rfl⟩ := List.mem_map.1 hx
            obtain ⟨q, hq, rfl⟩ := List.mem_iff_getElem.1 hy
            have := HNO.out q hq (by omega)
            unfold wideB
            simp [IR.it, this])
          go_wp2_with fail
          -- STOP-e
          go_roundw
          case rel => exact ⟨i + 1, by omega, by go_num, hid (HSEL.out.2 HWN.out).1, hid (HSEL.out.2 HWN.out).2, by first | rfl | trivial⟩
          case measure => simp [intOf]; omega
    · have t1 : ((i : Int) < 2) = False := eq_false (by omega)
      have HF := hid (show E = 0 by rw [HD.out, HN1.out (by omega), HN2.out (by omega)]; rfl)
      go_wp2_with fail
      go_ret
      exact ⟨ret_int HF.out.symm, HWW.out⟩
end Go.Proofs.YtldlmkfigjicgaaGreatDoor
/- query.width. -/
namespace Go.Proofs.YtldlmkfigjicgaaGreatDoor
set_option linter.unusedVariables false
set_option linter.unusedSimpArgs false
open Go.ChangeShapes Go.WideShapes Go.ChangeAt Go.RowKit

theorem getD_in {W : List Int} {j : Nat} (h : j < W.length) (hr : ∀ v ∈ W, 1 ≤ v ∧ v ≤ 8) : 1 ≤ W.getD j 0 ∧ W.getD j 0 ≤ 8 := by
  rw [List.getD_eq_getElem?_getD, List.getElem?_eq_getElem h]
  exact hr _ (List.getElem_mem h)
theorem stW_range {s : St} {W : List Int} (hr : ∀ v ∈ W, 1 ≤ v ∧ v ≤ 8) (h : stW s W ≠ 0) : 1 ≤ stW s W ∧ stW s W ≤ 8 := by
  have hv := stW_val h
  have ho := stW_ok h
  rw [hv] at h ⊢
  unfold wv at h ⊢
  rcases ho with ⟨k1, -⟩ | ⟨a0, a1, b0, b1, hk⟩
  · rw [if_pos k1]; omega
  · have hA := getD_in (W := W) (j := s.a.toNat) (by omega) hr
    have hB := getD_in (W := W) (j := s.b.toNat) (by omega) hr
    generalize W.getD s.a.toNat 0 = u at *
    generalize W.getD s.b.toNat 0 = v at *
    rcases hk with ⟨k, -⟩ | ⟨k, l, -⟩ | ⟨k, -, -, -, -, e⟩ | ⟨k, -⟩ | k | ⟨k, -⟩ | ⟨k, -⟩
    · rw [if_neg (by omega), if_neg (by omega), if_neg (by omega), if_neg (by omega)]; omega
    · rw [if_neg (by omega), if_pos k] at h ⊢; omega
    · rw [if_neg (by omega), if_neg (by omega), if_pos k]; omega
    · rw [if_neg (by omega), if_neg (by omega), if_neg (by omega), if_neg (by omega)]; omega
    · rw [if_neg (by omega), if_neg (by omega), if_neg (by omega), if_neg (by omega)]; omega
    · rw [if_neg (by omega), if_neg (by omega), if_neg (by omega), if_pos (by omega)]; omega
    · rw [if_neg (by omega), if_neg (by omega), if_neg (by omega), if_pos (by omega)]; omega

set_option maxHeartbeats 1000000 in
set_option maxRecDepth 100000 in
theorem width_k1 (sa sb sc so sv : Int) (sl : List Int) (sA : Option Addr) (sK : Nat) (W : List Int) (WA : Option Addr) (Wc : Nat) (w : World) (hl : Row w w.heap.size sA (icells' sl)) (hll : sl.length ≤ 9223372036854775807) (hW : Row w w.heap.size WA (icells' W)) (hW8 : W.length ≤ 8) (hr : ∀ v ∈ W, 1 ≤ v ∧ v ≤ 8) :
    Calls Tryz.prog 107 #[.agg #[.int .i64 1, .int .i64 sa, .int .i64 sb, .int .i64 sc, .int .i64 so, .int .i64 sv, .slice sA sl.length sK], .slice WA W.length Wc] w fun e w' => e = .returned (.int .i64 (stW ⟨1, sa, sb, sc, so, sv, sl⟩ W)) ∧ Below w.heap.size w w' := by
  obtain ⟨R, hR⟩ : ∃ R, R = stW ⟨1, sa, sb, sc, so, sv, sl⟩ W := ⟨_, rfl⟩
  rw [← hR]
  have HR := hid hR
  clear hR
  have HL := hid hl
  have HRW := hid hW
  clear hl hW
  have hwl : IntKind.i64.wrap ((W.length : Int) - 1) = (W.length : Int) - 1 := IntWalk.i64_in _ (by omega)
  cases htA : wiB sa 0 1
  · go_enter Tryz.func107, Tryz.ntmps107
    go_wp2_with (go_at_call 131; refine (qwithin_any _ _ _ _).mono ?_; rintro e w' ⟨rfl, rfl⟩)
    go_ret
    exact ⟨ret_int (by rw [HR.out]; simp [stW, tblB, badStep, twoB, htA]), by (repeat' (first | (with_reducible exact Below.refl _ _) | (with_reducible assumption) | (with_reducible refine below_drewN ?_ _) | (with_reducible refine Below.drew ?_) | (with_reducible refine Below.alloc ?_ ?_ _) | (with_reducible refine Below.setCell ?_ ?_ _) | (refine Below.trans ?_ (Below.mono (by assumption) ?_)) | go_size))⟩
  · cases htb : (sb == 0)
    · go_enter Tryz.func107, Tryz.ntmps107
      go_wp2_with (go_at_call 131; refine (qwithin_any _ _ _ _).mono ?_; rintro e w' ⟨rfl, rfl⟩)
      go_ret
      exact ⟨ret_int (by rw [HR.out]; simp [stW, tblB, badStep, twoB, htA, htb]), by (repeat' (first | (with_reducible exact Below.refl _ _) | (with_reducible assumption) | (with_reducible refine below_drewN ?_ _) | (with_reducible refine Below.drew ?_) | (with_reducible refine Below.alloc ?_ ?_ _) | (with_reducible refine Below.setCell ?_ ?_ _) | (refine Below.trans ?_ (Below.mono (by assumption) ?_)) | go_size))⟩
    · cases htc : (sc == 0)
      · go_enter Tryz.func107, Tryz.ntmps107
        go_wp2_with (go_at_call 131; refine (qwithin_any _ _ _ _).mono ?_; rintro e w' ⟨rfl, rfl⟩)
        go_ret
        exact ⟨ret_int (by rw [HR.out]; simp [stW, tblB, badStep, twoB, htA, htb, htc]), by (repeat' (first | (with_reducible exact Below.refl _ _) | (with_reducible assumption) | (with_reducible refine below_drewN ?_ _) | (with_reducible refine Below.drew ?_) | (with_reducible refine Below.alloc ?_ ?_ _) | (with_reducible refine Below.setCell ?_ ?_ _) | (refine Below.trans ?_ (Below.mono (by assumption) ?_)) | go_size))⟩
      · cases hto : (so == 0)
        · go_enter Tryz.func107, Tryz.ntmps107
          go_wp2_with (go_at_call 131; refine (qwithin_any _ _ _ _).mono ?_; rintro e w' ⟨rfl, rfl⟩)
          go_ret
          exact ⟨ret_int (by rw [HR.out]; simp [stW, tblB, badStep, twoB, htA, htb, htc, hto]), by (repeat' (first | (with_reducible exact Below.refl _ _) | (with_reducible assumption) | (with_reducible refine below_drewN ?_ _) | (with_reducible refine Below.drew ?_) | (with_reducible refine Below.alloc ?_ ?_ _) | (with_reducible refine Below.setCell ?_ ?_ _) | (refine Below.trans ?_ (Below.mono (by assumption) ?_)) | go_size))⟩
        · cases htv : (sv == 0)
          · go_enter Tryz.func107, Tryz.ntmps107
            go_wp2_with (go_at_call 131; refine (qwithin_any _ _ _ _).mono ?_; rintro e w' ⟨rfl, rfl⟩)
            go_ret
            exact ⟨ret_int (by rw [HR.out]; simp [stW, tblB, badStep, twoB, htA, htb, htc, hto, htv]), by (repeat' (first | (with_reducible exact Below.refl _ _) | (with_reducible assumption) | (with_reducible refine below_drewN ?_ _) | (with_reducible refine Below.drew ?_) | (with_reducible refine Below.alloc ?_ ?_ _) | (with_reducible refine Below.setCell ?_ ?_ _) | (refine Below.trans ?_ (Below.mono (by assumption) ?_)) | go_size))⟩
          · cases htl : (sl.length == 0)
            · have htl' : ((sl.length : Int) == 0) = false := beq_eq_false_iff_ne.2 (by have := beq_eq_false_iff_ne.1 htl; omega)
              go_enter Tryz.func107, Tryz.ntmps107
              go_wp2_with (go_at_call 131; refine (qwithin_any _ _ _ _).mono ?_; rintro e w' ⟨rfl, rfl⟩)
              go_ret
              exact ⟨ret_int (by rw [HR.out]; simp [stW, tblB, badStep, twoB, htA, htb, htc, hto, htv, htl]), by (repeat' (first | (with_reducible exact Below.refl _ _) | (with_reducible assumption) | (with_reducible refine below_drewN ?_ _) | (with_reducible refine Below.drew ?_) | (with_reducible refine Below.alloc ?_ ?_ _) | (with_reducible refine Below.setCell ?_ ?_ _) | (refine Below.trans ?_ (Below.mono (by assumption) ?_)) | go_size))⟩
            · have htl' : ((sl.length : Int) == 0) = true := beq_iff_eq.2 (by have := beq_iff_eq.1 htl; omega)
              go_enter Tryz.func107, Tryz.ntmps107
              go_wp2_with (go_at_call 131; refine (qwithin_any _ _ _ _).mono ?_; rintro e w' ⟨rfl, rfl⟩)
              go_ret
              exact ⟨ret_int (by rw [HR.out]; simp [stW, tblB, badStep, twoB, htA, htb, htc, hto, htv, htl]), by (repeat' (first | (with_reducible exact Below.refl _ _) | (with_reducible assumption) | (with_reducible refine below_drewN ?_ _) | (with_reducible refine Below.drew ?_) | (with_reducible refine Below.alloc ?_ ?_ _) | (with_reducible refine Below.setCell ?_ ?_ _) | (refine Below.trans ?_ (Below.mono (by assumption) ?_)) | go_size))⟩
set_option maxHeartbeats 1000000 in
set_option maxRecDepth 100000 in
theorem width_k3 (sa sb sc so sv : Int) (sl : List Int) (sA : Option Addr) (sK : Nat) (W : List Int) (WA : Option Addr) (Wc : Nat) (w : World) (hl : Row w w.heap.size sA (icells' sl)) (hll : sl.length ≤ 9223372036854775807) (hW : Row w w.heap.size WA (icells' W)) (hW8 : W.length ≤ 8) (hr : ∀ v ∈ W, 1 ≤ v ∧ v ≤ 8) :
    Calls Tryz.prog 107 #[.agg #[.int .i64 3, .int .i64 sa, .int .i64 sb, .int .i64 sc, .int .i64 so, .int .i64 sv, .slice sA sl.length sK], .slice WA W.length Wc] w fun e w' => e = .returned (.int .i64 (stW ⟨3, sa, sb, sc, so, sv, sl⟩ W)) ∧ Below w.heap.size w w' := by
  obtain ⟨R, hR⟩ : ∃ R, R = stW ⟨3, sa, sb, sc, so, sv, sl⟩ W := ⟨_, rfl⟩
  rw [← hR]
  have HR := hid hR
  clear hR
  have HL := hid hl
  have HRW := hid hW
  clear hl hW
  have hwl : IntKind.i64.wrap ((W.length : Int) - 1) = (W.length : Int) - 1 := IntWalk.i64_in _ (by omega)
  cases hA : wiB sa 0 ((W.length : Int) - 1)
  · go_enter Tryz.func107, Tryz.ntmps107
    go_wp2_with (go_at_call 131; refine (qwithin_any _ _ _ _).mono ?_; rintro e w' ⟨rfl, rfl⟩)
    go_ret
    exact ⟨ret_int (by rw [HR.out]; simp [stW, tblB, badStep, twoB, hA]), by (repeat' (first | (with_reducible exact Below.refl _ _) | (with_reducible assumption) | (with_reducible refine below_drewN ?_ _) | (with_reducible refine Below.drew ?_) | (with_reducible refine Below.alloc ?_ ?_ _) | (with_reducible refine Below.setCell ?_ ?_ _) | (refine Below.trans ?_ (Below.mono (by assumption) ?_)) | go_size))⟩
  · cases hn : (sb != 0)
    · have hn' : (sb == 0) = true := by rw [Bool.eq_iff_iff]; simpa using hn
      cases hp : decide (0 < sl.length)
      · have hp' : ((0 : Int) < (sl.length : Int)) = False := eq_false (by have := of_decide_eq_false hp; omega)
        go_enter Tryz.func107, Tryz.ntmps107
        go_wp2_with (go_at_call 131; refine (qwithin_any _ _ _ _).mono ?_; rintro e w' ⟨rfl, rfl⟩)
        go_ret
        exact ⟨ret_int (by rw [HR.out]; simp [stW, tblB, badStep, twoB, hA, hn, hp]), by (repeat' (first | (with_reducible exact Below.refl _ _) | (with_reducible assumption) | (with_reducible refine below_drewN ?_ _) | (with_reducible refine Below.drew ?_) | (with_reducible refine Below.alloc ?_ ?_ _) | (with_reducible refine Below.setCell ?_ ?_ _) | (refine Below.trans ?_ (Below.mono (by assumption) ?_)) | go_size))⟩
      · have hp' : ((0 : Int) < (sl.length : Int)) = True := eq_true (by have := of_decide_eq_true hp; omega)
        have hA2 := wiB_iff.1 hA
        obtain ⟨ja, rfl⟩ : ∃ ja : Nat, sa = (ja : Int) := ⟨sa.toNat, by omega⟩
        have hja : ja < W.length := by omega
        obtain ⟨bw, ow, rfl, hbw, va⟩ := HRW.out.int' hja
        obtain rfl : sb = 0 := by simpa using hn
        obtain ⟨jb, hjb0⟩ : ∃ jb : Nat, jb = 0 := ⟨0, rfl⟩
        have hjb : jb < W.length := by omega
        obtain ⟨bw', ow', e', -, vb⟩ := HRW.out.int' hjb
        injection e' with e'
        injection e' with q1 q2
        subst q1 q2
        subst hjb0
        simp only [Nat.add_zero] at vb
        have hu := hr W[ja] (List.getElem_mem hja)
        have hv := hr W[0] (List.getElem_mem hjb)
        have HE : Hid (R = ofW ⟨3, ja, 0, sc, so, sv, sl⟩ W[ja] W[0]) := hid (by
          rw [HR.out]
          have e1 : W.getD ja 0 = W[ja] := by rw [List.getD_eq_getElem?_getD, List.getElem?_eq_getElem hja]; rfl
          have e2 : W.getD 0 0 = W[0] := by rw [List.getD_eq_getElem?_getD, List.getElem?_eq_getElem hjb]; rfl
          have e3 : badStep ⟨3, ja, 0, sc, so, sv, sl⟩ ((W.length : Int) - 1) = false := by simp [badStep, twoB, hA, hn, hp]
          unfold stW
          simp only [e3, Int.toNat_natCast, e1]
          rw [if_neg (by omega), if_neg (by simp)]
          rw [show ((0 : Int)).toNat = 0 from rfl, e2])
        generalize W[ja] = u at *
        generalize W[0] = v at *
        have HOF := hid (fun w1 (hbb : Below w.heap.size w w1) => of_any' ⟨⟨3, ja, 0, sc, so, sv, sl⟩, sA, sK⟩ u v w1 (by omega) (by omega) (HL.out.step hbb) hll)
        simp only [SR.cells] at HOF
        rw [← HE.out] at HOF
        obtain ⟨W1, hW1⟩ : ∃ W1 : World, W1 = w.alloc (.cells #[.int .i64 3, .int .i64 (ja : Int), .int .i64 0, .int .i64 sc, .int .i64 so, .int .i64 sv, .slice sA sl.length sK] 89) := ⟨_, rfl⟩
        have HX := hid (show Blk W1 w.heap.size #[.int .i64 3, .int .i64 (ja : Int), .int .i64 0, .int .i64 sc, .int .i64 so, .int .i64 sv, .slice sA sl.length sK] 89 by rw [hW1]; exact Blk.new _ _ _)
        have HB1 := hid (show Below w.heap.size w W1 by rw [hW1]; (repeat' (first | (with_reducible exact Below.refl _ _) | (with_reducible assumption) | (with_reducible refine below_drewN ?_ _) | (with_reducible refine Below.drew ?_) | (with_reducible refine Below.alloc ?_ ?_ _) | (with_reducible refine Below.setCell ?_ ?_ _) | (refine Below.trans ?_ (Below.mono (by assumption) ?_)) | go_size)))
        have va' := ((bcell HB1.out).1 bw _ hbw).trans va
        have vb' := ((bcell HB1.out).1 bw _ hbw).trans vb
        have hbw' : bw < W1.heap.size := Nat.lt_of_lt_of_le hbw HB1.out.size
        have hjal : (ja : Int) < (W.length : Int) := by omega
        have h0l : (0 : Int) < (W.length : Int) := by omega
        clear va vb hbw HR HE hA2
        go_enter Tryz.func107, Tryz.ntmps107
        go_wp2_with (go_at_call 131; refine (qwithin_any _ _ _ _).mono ?_; rintro e w' ⟨rfl, rfl⟩)
        rw [← hW1]
        clear hW1
        obtain ⟨cHX, fHX, sHX, nHX⟩ := HX.out.all
        try simp only [cbox] at cHX
        refine region_ext (by kernel_rfl) (by kernel_rfl) (fun hext => ?_)
        repeat (any_goals ((with_reducible refine wpQuiet_step (fun K hK => ?_)); go_simp; first | (with_reducible refine hK _ ?_; clear hK K) | ((with_reducible apply Exists.intro); (with_reducible refine ⟨fun _ => ?_, hK _ ?_⟩); ((go_at_call 132; (with_reducible refine ext_call _ ?_ (HOF.out _ (Below.step' HB1.out (Ext.below _)))); simp)); clear hK K) | ((with_reducible refine (if_neg ?_).mpr (hK _ ?_)); (decide); clear hK K) | (split <;> (with_reducible refine hK _ ?_; clear hK K))))
        all_goals ((with_reducible refine wpQuiet_nil ?_); clear hext; intro w1 hx1; have hb1 := ext_below hx1; clear hx1)
        have HB2 := hid (Below.step' HB1.out hb1)
        clear hb1
        go_wp2
        go_ret
        exact ⟨rfl, HB2.out⟩
    · have hn' : (sb == 0) = false := by rw [Bool.eq_false_iff]; simpa using hn
      go_enter Tryz.func107, Tryz.ntmps107
      go_wp2_with (go_at_call 131; refine (qwithin_any _ _ _ _).mono ?_; rintro e w' ⟨rfl, rfl⟩)
      go_ret
      exact ⟨ret_int (by rw [HR.out]; simp [stW, tblB, badStep, twoB, hA, hn]), by (repeat' (first | (with_reducible exact Below.refl _ _) | (with_reducible assumption) | (with_reducible refine below_drewN ?_ _) | (with_reducible refine Below.drew ?_) | (with_reducible refine Below.alloc ?_ ?_ _) | (with_reducible refine Below.setCell ?_ ?_ _) | (refine Below.trans ?_ (Below.mono (by assumption) ?_)) | go_size))⟩
set_option maxHeartbeats 1000000 in
set_option maxRecDepth 100000 in
theorem width_k4 (sa sb sc so sv : Int) (sl : List Int) (sA : Option Addr) (sK : Nat) (W : List Int) (WA : Option Addr) (Wc : Nat) (w : World) (hl : Row w w.heap.size sA (icells' sl)) (hll : sl.length ≤ 9223372036854775807) (hW : Row w w.heap.size WA (icells' W)) (hW8 : W.length ≤ 8) (hr : ∀ v ∈ W, 1 ≤ v ∧ v ≤ 8) :
    Calls Tryz.prog 107 #[.agg #[.int .i64 4, .int .i64 sa, .int .i64 sb, .int .i64 sc, .int .i64 so, .int .i64 sv, .slice sA sl.length sK], .slice WA W.length Wc] w fun e w' => e = .returned (.int .i64 (stW ⟨4, sa, sb, sc, so, sv, sl⟩ W)) ∧ Below w.heap.size w w' := by
  obtain ⟨R, hR⟩ : ∃ R, R = stW ⟨4, sa, sb, sc, so, sv, sl⟩ W := ⟨_, rfl⟩
  rw [← hR]
  have HR := hid hR
  clear hR
  have HL := hid hl
  have HRW := hid hW
  clear hl hW
  have hwl : IntKind.i64.wrap ((W.length : Int) - 1) = (W.length : Int) - 1 := IntWalk.i64_in _ (by omega)
  cases hA : wiB sa 0 ((W.length : Int) - 1)
  · go_enter Tryz.func107, Tryz.ntmps107
    go_wp2_with (go_at_call 131; refine (qwithin_any _ _ _ _).mono ?_; rintro e w' ⟨rfl, rfl⟩)
    go_ret
    exact ⟨ret_int (by rw [HR.out]; simp [stW, tblB, badStep, twoB, hA]), by (repeat' (first | (with_reducible exact Below.refl _ _) | (with_reducible assumption) | (with_reducible refine below_drewN ?_ _) | (with_reducible refine Below.drew ?_) | (with_reducible refine Below.alloc ?_ ?_ _) | (with_reducible refine Below.setCell ?_ ?_ _) | (refine Below.trans ?_ (Below.mono (by assumption) ?_)) | go_size))⟩
  · cases hB : wiB sb 0 ((W.length : Int) - 1)
    · go_enter Tryz.func107, Tryz.ntmps107
      go_wp2_with (go_at_call 131; refine (qwithin_any _ _ _ _).mono ?_; rintro e w' ⟨rfl, rfl⟩)
      go_ret
      exact ⟨ret_int (by rw [HR.out]; simp [stW, tblB, badStep, twoB, hA, hB]), by (repeat' (first | (with_reducible exact Below.refl _ _) | (with_reducible assumption) | (with_reducible refine below_drewN ?_ _) | (with_reducible refine Below.drew ?_) | (with_reducible refine Below.alloc ?_ ?_ _) | (with_reducible refine Below.setCell ?_ ?_ _) | (refine Below.trans ?_ (Below.mono (by assumption) ?_)) | go_size))⟩
    · cases hp : decide (0 < sl.length)
      · have hp' : ((0 : Int) < (sl.length : Int)) = False := eq_false (by have := of_decide_eq_false hp; omega)
        have hA2 := wiB_iff.1 hA
        obtain ⟨ja, rfl⟩ : ∃ ja : Nat, sa = (ja : Int) := ⟨sa.toNat, by omega⟩
        have hja : ja < W.length := by omega
        obtain ⟨bw, ow, rfl, hbw, va⟩ := HRW.out.int' hja
        have hB2 := wiB_iff.1 hB
        obtain ⟨jb, rfl⟩ : ∃ jb : Nat, sb = (jb : Int) := ⟨sb.toNat, by omega⟩
        have hjb : jb < W.length := by omega
        obtain ⟨bw', ow', e', -, vb⟩ := HRW.out.int' hjb
        injection e' with e'
        injection e' with q1 q2
        subst q1 q2
        have hu := hr W[ja] (List.getElem_mem hja)
        have hv := hr W[jb] (List.getElem_mem hjb)
        have HE : Hid (R = ofW ⟨4, ja, (jb : Int), sc, so, sv, sl⟩ W[ja] W[jb]) := hid (by
          rw [HR.out]
          have e1 : W.getD ja 0 = W[ja] := by rw [List.getD_eq_getElem?_getD, List.getElem?_eq_getElem hja]; rfl
          have e2 : W.getD jb 0 = W[jb] := by rw [List.getD_eq_getElem?_getD, List.getElem?_eq_getElem hjb]; rfl
          have e3 : badStep ⟨4, ja, (jb : Int), sc, so, sv, sl⟩ ((W.length : Int) - 1) = false := by simp [badStep, twoB, hA, hB, hp]
          unfold stW
          simp only [e3, Int.toNat_natCast, e1]
          rw [if_neg (by omega), if_neg (by simp)]
          rw [e2])
        generalize W[ja] = u at *
        generalize W[jb] = v at *
        have HOF := hid (fun w1 (hbb : Below w.heap.size w w1) => of_any' ⟨⟨4, ja, (jb : Int), sc, so, sv, sl⟩, sA, sK⟩ u v w1 (by omega) (by omega) (HL.out.step hbb) hll)
        simp only [SR.cells] at HOF
        rw [← HE.out] at HOF
        obtain ⟨W1, hW1⟩ : ∃ W1 : World, W1 = w.alloc (.cells #[.int .i64 4, .int .i64 (ja : Int), .int .i64 (jb : Int), .int .i64 sc, .int .i64 so, .int .i64 sv, .slice sA sl.length sK] 89) := ⟨_, rfl⟩
        have HX := hid (show Blk W1 w.heap.size #[.int .i64 4, .int .i64 (ja : Int), .int .i64 (jb : Int), .int .i64 sc, .int .i64 so, .int .i64 sv, .slice sA sl.length sK] 89 by rw [hW1]; exact Blk.new _ _ _)
        have HB1 := hid (show Below w.heap.size w W1 by rw [hW1]; (repeat' (first | (with_reducible exact Below.refl _ _) | (with_reducible assumption) | (with_reducible refine below_drewN ?_ _) | (with_reducible refine Below.drew ?_) | (with_reducible refine Below.alloc ?_ ?_ _) | (with_reducible refine Below.setCell ?_ ?_ _) | (refine Below.trans ?_ (Below.mono (by assumption) ?_)) | go_size)))
        have va' := ((bcell HB1.out).1 bw _ hbw).trans va
        have vb' := ((bcell HB1.out).1 bw _ hbw).trans vb
        have hbw' : bw < W1.heap.size := Nat.lt_of_lt_of_le hbw HB1.out.size
        have hjal : (ja : Int) < (W.length : Int) := by omega
        have hjbl : (jb : Int) < (W.length : Int) := by omega
        have h0l : (0 : Int) < (W.length : Int) := by omega
        clear va vb hbw HR HE hA2 hB2
        go_enter Tryz.func107, Tryz.ntmps107
        go_wp2_with (go_at_call 131; refine (qwithin_any _ _ _ _).mono ?_; rintro e w' ⟨rfl, rfl⟩)
        rw [← hW1]
        clear hW1
        obtain ⟨cHX, fHX, sHX, nHX⟩ := HX.out.all
        try simp only [cbox] at cHX
        refine region_ext (by kernel_rfl) (by kernel_rfl) (fun hext => ?_)
        repeat (any_goals ((with_reducible refine wpQuiet_step (fun K hK => ?_)); go_simp; first | (with_reducible refine hK _ ?_; clear hK K) | ((with_reducible apply Exists.intro); (with_reducible refine ⟨fun _ => ?_, hK _ ?_⟩); ((go_at_call 132; (with_reducible refine ext_call _ ?_ (HOF.out _ (Below.step' HB1.out (Ext.below _)))); simp)); clear hK K) | ((with_reducible refine (if_neg ?_).mpr (hK _ ?_)); (decide); clear hK K) | (split <;> (with_reducible refine hK _ ?_; clear hK K))))
        all_goals ((with_reducible refine wpQuiet_nil ?_); clear hext; intro w1 hx1; have hb1 := ext_below hx1; clear hx1)
        have HB2 := hid (Below.step' HB1.out hb1)
        clear hb1
        go_wp2
        go_ret
        exact ⟨rfl, HB2.out⟩
      · have hp' : ((0 : Int) < (sl.length : Int)) = True := eq_true (by have := of_decide_eq_true hp; omega)
        go_enter Tryz.func107, Tryz.ntmps107
        go_wp2_with (go_at_call 131; refine (qwithin_any _ _ _ _).mono ?_; rintro e w' ⟨rfl, rfl⟩)
        go_ret
        exact ⟨ret_int (by rw [HR.out]; simp [stW, tblB, badStep, twoB, hA, hB, hp]), by (repeat' (first | (with_reducible exact Below.refl _ _) | (with_reducible assumption) | (with_reducible refine below_drewN ?_ _) | (with_reducible refine Below.drew ?_) | (with_reducible refine Below.alloc ?_ ?_ _) | (with_reducible refine Below.setCell ?_ ?_ _) | (refine Below.trans ?_ (Below.mono (by assumption) ?_)) | go_size))⟩
set_option maxHeartbeats 1000000 in
set_option maxRecDepth 100000 in
theorem width_k5 (sa sb sc so sv : Int) (sl : List Int) (sA : Option Addr) (sK : Nat) (W : List Int) (WA : Option Addr) (Wc : Nat) (w : World) (hl : Row w w.heap.size sA (icells' sl)) (hll : sl.length ≤ 9223372036854775807) (hW : Row w w.heap.size WA (icells' W)) (hW8 : W.length ≤ 8) (hr : ∀ v ∈ W, 1 ≤ v ∧ v ≤ 8) :
    Calls Tryz.prog 107 #[.agg #[.int .i64 5, .int .i64 sa, .int .i64 sb, .int .i64 sc, .int .i64 so, .int .i64 sv, .slice sA sl.length sK], .slice WA W.length Wc] w fun e w' => e = .returned (.int .i64 (stW ⟨5, sa, sb, sc, so, sv, sl⟩ W)) ∧ Below w.heap.size w w' := by
  obtain ⟨R, hR⟩ : ∃ R, R = stW ⟨5, sa, sb, sc, so, sv, sl⟩ W := ⟨_, rfl⟩
  rw [← hR]
  have HR := hid hR
  clear hR
  have HL := hid hl
  have HRW := hid hW
  clear hl hW
  have hwl : IntKind.i64.wrap ((W.length : Int) - 1) = (W.length : Int) - 1 := IntWalk.i64_in _ (by omega)
  cases hA : wiB sa 0 ((W.length : Int) - 1)
  · go_enter Tryz.func107, Tryz.ntmps107
    go_wp2_with (go_at_call 131; refine (qwithin_any _ _ _ _).mono ?_; rintro e w' ⟨rfl, rfl⟩)
    go_ret
    exact ⟨ret_int (by rw [HR.out]; simp [stW, tblB, badStep, twoB, hA]), by (repeat' (first | (with_reducible exact Below.refl _ _) | (with_reducible assumption) | (with_reducible refine below_drewN ?_ _) | (with_reducible refine Below.drew ?_) | (with_reducible refine Below.alloc ?_ ?_ _) | (with_reducible refine Below.setCell ?_ ?_ _) | (refine Below.trans ?_ (Below.mono (by assumption) ?_)) | go_size))⟩
  · cases hB : wiB sb 0 ((W.length : Int) - 1)
    · go_enter Tryz.func107, Tryz.ntmps107
      go_wp2_with (go_at_call 131; refine (qwithin_any _ _ _ _).mono ?_; rintro e w' ⟨rfl, rfl⟩)
      go_ret
      exact ⟨ret_int (by rw [HR.out]; simp [stW, tblB, badStep, twoB, hA, hB]), by (repeat' (first | (with_reducible exact Below.refl _ _) | (with_reducible assumption) | (with_reducible refine below_drewN ?_ _) | (with_reducible refine Below.drew ?_) | (with_reducible refine Below.alloc ?_ ?_ _) | (with_reducible refine Below.setCell ?_ ?_ _) | (refine Below.trans ?_ (Below.mono (by assumption) ?_)) | go_size))⟩
    · cases hp : decide (0 < sl.length)
      · have hp' : ((0 : Int) < (sl.length : Int)) = False := eq_false (by have := of_decide_eq_false hp; omega)
        have hA2 := wiB_iff.1 hA
        obtain ⟨ja, rfl⟩ : ∃ ja : Nat, sa = (ja : Int) := ⟨sa.toNat, by omega⟩
        have hja : ja < W.length := by omega
        obtain ⟨bw, ow, rfl, hbw, va⟩ := HRW.out.int' hja
        have hB2 := wiB_iff.1 hB
        obtain ⟨jb, rfl⟩ : ∃ jb : Nat, sb = (jb : Int) := ⟨sb.toNat, by omega⟩
        have hjb : jb < W.length := by omega
        obtain ⟨bw', ow', e', -, vb⟩ := HRW.out.int' hjb
        injection e' with e'
        injection e' with q1 q2
        subst q1 q2
        have hu := hr W[ja] (List.getElem_mem hja)
        have hv := hr W[jb] (List.getElem_mem hjb)
        have HE : Hid (R = ofW ⟨5, ja, (jb : Int), sc, so, sv, sl⟩ W[ja] W[jb]) := hid (by
          rw [HR.out]
          have e1 : W.getD ja 0 = W[ja] := by rw [List.getD_eq_getElem?_getD, List.getElem?_eq_getElem hja]; rfl
          have e2 : W.getD jb 0 = W[jb] := by rw [List.getD_eq_getElem?_getD, List.getElem?_eq_getElem hjb]; rfl
          have e3 : badStep ⟨5, ja, (jb : Int), sc, so, sv, sl⟩ ((W.length : Int) - 1) = false := by simp [badStep, twoB, hA, hB, hp]
          unfold stW
          simp only [e3, Int.toNat_natCast, e1]
          rw [if_neg (by omega), if_neg (by simp)]
          rw [e2])
        generalize W[ja] = u at *
        generalize W[jb] = v at *
        have HOF := hid (fun w1 (hbb : Below w.heap.size w w1) => of_any' ⟨⟨5, ja, (jb : Int), sc, so, sv, sl⟩, sA, sK⟩ u v w1 (by omega) (by omega) (HL.out.step hbb) hll)
        simp only [SR.cells] at HOF
        rw [← HE.out] at HOF
        obtain ⟨W1, hW1⟩ : ∃ W1 : World, W1 = w.alloc (.cells #[.int .i64 5, .int .i64 (ja : Int), .int .i64 (jb : Int), .int .i64 sc, .int .i64 so, .int .i64 sv, .slice sA sl.length sK] 89) := ⟨_, rfl⟩
        have HX := hid (show Blk W1 w.heap.size #[.int .i64 5, .int .i64 (ja : Int), .int .i64 (jb : Int), .int .i64 sc, .int .i64 so, .int .i64 sv, .slice sA sl.length sK] 89 by rw [hW1]; exact Blk.new _ _ _)
        have HB1 := hid (show Below w.heap.size w W1 by rw [hW1]; (repeat' (first | (with_reducible exact Below.refl _ _) | (with_reducible assumption) | (with_reducible refine below_drewN ?_ _) | (with_reducible refine Below.drew ?_) | (with_reducible refine Below.alloc ?_ ?_ _) | (with_reducible refine Below.setCell ?_ ?_ _) | (refine Below.trans ?_ (Below.mono (by assumption) ?_)) | go_size)))
        have va' := ((bcell HB1.out).1 bw _ hbw).trans va
        have vb' := ((bcell HB1.out).1 bw _ hbw).trans vb
        have hbw' : bw < W1.heap.size := Nat.lt_of_lt_of_le hbw HB1.out.size
        have hjal : (ja : Int) < (W.length : Int) := by omega
        have hjbl : (jb : Int) < (W.length : Int) := by omega
        have h0l : (0 : Int) < (W.length : Int) := by omega
        clear va vb hbw HR HE hA2 hB2
        go_enter Tryz.func107, Tryz.ntmps107
        go_wp2_with (go_at_call 131; refine (qwithin_any _ _ _ _).mono ?_; rintro e w' ⟨rfl, rfl⟩)
        rw [← hW1]
        clear hW1
        obtain ⟨cHX, fHX, sHX, nHX⟩ := HX.out.all
        try simp only [cbox] at cHX
        refine region_ext (by kernel_rfl) (by kernel_rfl) (fun hext => ?_)
        repeat (any_goals ((with_reducible refine wpQuiet_step (fun K hK => ?_)); go_simp; first | (with_reducible refine hK _ ?_; clear hK K) | ((with_reducible apply Exists.intro); (with_reducible refine ⟨fun _ => ?_, hK _ ?_⟩); ((go_at_call 132; (with_reducible refine ext_call _ ?_ (HOF.out _ (Below.step' HB1.out (Ext.below _)))); simp)); clear hK K) | ((with_reducible refine (if_neg ?_).mpr (hK _ ?_)); (decide); clear hK K) | (split <;> (with_reducible refine hK _ ?_; clear hK K))))
        all_goals ((with_reducible refine wpQuiet_nil ?_); clear hext; intro w1 hx1; have hb1 := ext_below hx1; clear hx1)
        have HB2 := hid (Below.step' HB1.out hb1)
        clear hb1
        go_wp2
        go_ret
        exact ⟨rfl, HB2.out⟩
      · have hp' : ((0 : Int) < (sl.length : Int)) = True := eq_true (by have := of_decide_eq_true hp; omega)
        go_enter Tryz.func107, Tryz.ntmps107
        go_wp2_with (go_at_call 131; refine (qwithin_any _ _ _ _).mono ?_; rintro e w' ⟨rfl, rfl⟩)
        go_ret
        exact ⟨ret_int (by rw [HR.out]; simp [stW, tblB, badStep, twoB, hA, hB, hp]), by (repeat' (first | (with_reducible exact Below.refl _ _) | (with_reducible assumption) | (with_reducible refine below_drewN ?_ _) | (with_reducible refine Below.drew ?_) | (with_reducible refine Below.alloc ?_ ?_ _) | (with_reducible refine Below.setCell ?_ ?_ _) | (refine Below.trans ?_ (Below.mono (by assumption) ?_)) | go_size))⟩
set_option maxHeartbeats 1000000 in
set_option maxRecDepth 100000 in
theorem width_k6 (sa sb sc so sv : Int) (sl : List Int) (sA : Option Addr) (sK : Nat) (W : List Int) (WA : Option Addr) (Wc : Nat) (w : World) (hl : Row w w.heap.size sA (icells' sl)) (hll : sl.length ≤ 9223372036854775807) (hW : Row w w.heap.size WA (icells' W)) (hW8 : W.length ≤ 8) (hr : ∀ v ∈ W, 1 ≤ v ∧ v ≤ 8) :
    Calls Tryz.prog 107 #[.agg #[.int .i64 6, .int .i64 sa, .int .i64 sb, .int .i64 sc, .int .i64 so, .int .i64 sv, .slice sA sl.length sK], .slice WA W.length Wc] w fun e w' => e = .returned (.int .i64 (stW ⟨6, sa, sb, sc, so, sv, sl⟩ W)) ∧ Below w.heap.size w w' := by
  obtain ⟨R, hR⟩ : ∃ R, R = stW ⟨6, sa, sb, sc, so, sv, sl⟩ W := ⟨_, rfl⟩
  rw [← hR]
  have HR := hid hR
  clear hR
  have HL := hid hl
  have HRW := hid hW
  clear hl hW
  have hwl : IntKind.i64.wrap ((W.length : Int) - 1) = (W.length : Int) - 1 := IntWalk.i64_in _ (by omega)
  cases hA : wiB sa 0 ((W.length : Int) - 1)
  · go_enter Tryz.func107, Tryz.ntmps107
    go_wp2_with (go_at_call 131; refine (qwithin_any _ _ _ _).mono ?_; rintro e w' ⟨rfl, rfl⟩)
    go_ret
    exact ⟨ret_int (by rw [HR.out]; simp [stW, tblB, badStep, twoB, hA]), by (repeat' (first | (with_reducible exact Below.refl _ _) | (with_reducible assumption) | (with_reducible refine below_drewN ?_ _) | (with_reducible refine Below.drew ?_) | (with_reducible refine Below.alloc ?_ ?_ _) | (with_reducible refine Below.setCell ?_ ?_ _) | (refine Below.trans ?_ (Below.mono (by assumption) ?_)) | go_size))⟩
  · cases hB : wiB sb 0 ((W.length : Int) - 1)
    · go_enter Tryz.func107, Tryz.ntmps107
      go_wp2_with (go_at_call 131; refine (qwithin_any _ _ _ _).mono ?_; rintro e w' ⟨rfl, rfl⟩)
      go_ret
      exact ⟨ret_int (by rw [HR.out]; simp [stW, tblB, badStep, twoB, hA, hB]), by (repeat' (first | (with_reducible exact Below.refl _ _) | (with_reducible assumption) | (with_reducible refine below_drewN ?_ _) | (with_reducible refine Below.drew ?_) | (with_reducible refine Below.alloc ?_ ?_ _) | (with_reducible refine Below.setCell ?_ ?_ _) | (refine Below.trans ?_ (Below.mono (by assumption) ?_)) | go_size))⟩
    · cases hp : decide (0 < sl.length)
      · have hp' : ((0 : Int) < (sl.length : Int)) = False := eq_false (by have := of_decide_eq_false hp; omega)
        have hA2 := wiB_iff.1 hA
        obtain ⟨ja, rfl⟩ : ∃ ja : Nat, sa = (ja : Int) := ⟨sa.toNat, by omega⟩
        have hja : ja < W.length := by omega
        obtain ⟨bw, ow, rfl, hbw, va⟩ := HRW.out.int' hja
        have hB2 := wiB_iff.1 hB
        obtain ⟨jb, rfl⟩ : ∃ jb : Nat, sb = (jb : Int) := ⟨sb.toNat, by omega⟩
        have hjb : jb < W.length := by omega
        obtain ⟨bw', ow', e', -, vb⟩ := HRW.out.int' hjb
        injection e' with e'
        injection e' with q1 q2
        subst q1 q2
        have hu := hr W[ja] (List.getElem_mem hja)
        have hv := hr W[jb] (List.getElem_mem hjb)
        have HE : Hid (R = ofW ⟨6, ja, (jb : Int), sc, so, sv, sl⟩ W[ja] W[jb]) := hid (by
          rw [HR.out]
          have e1 : W.getD ja 0 = W[ja] := by rw [List.getD_eq_getElem?_getD, List.getElem?_eq_getElem hja]; rfl
          have e2 : W.getD jb 0 = W[jb] := by rw [List.getD_eq_getElem?_getD, List.getElem?_eq_getElem hjb]; rfl
          have e3 : badStep ⟨6, ja, (jb : Int), sc, so, sv, sl⟩ ((W.length : Int) - 1) = false := by simp [badStep, twoB, hA, hB, hp]
          unfold stW
          simp only [e3, Int.toNat_natCast, e1]
          rw [if_neg (by omega), if_neg (by simp)]
          rw [e2])
        generalize W[ja] = u at *
        generalize W[jb] = v at *
        have HOF := hid (fun w1 (hbb : Below w.heap.size w w1) => of_any' ⟨⟨6, ja, (jb : Int), sc, so, sv, sl⟩, sA, sK⟩ u v w1 (by omega) (by omega) (HL.out.step hbb) hll)
        simp only [SR.cells] at HOF
        rw [← HE.out] at HOF
        obtain ⟨W1, hW1⟩ : ∃ W1 : World, W1 = w.alloc (.cells #[.int .i64 6, .int .i64 (ja : Int), .int .i64 (jb : Int), .int .i64 sc, .int .i64 so, .int .i64 sv, .slice sA sl.length sK] 89) := ⟨_, rfl⟩
        have HX := hid (show Blk W1 w.heap.size #[.int .i64 6, .int .i64 (ja : Int), .int .i64 (jb : Int), .int .i64 sc, .int .i64 so, .int .i64 sv, .slice sA sl.length sK] 89 by rw [hW1]; exact Blk.new _ _ _)
        have HB1 := hid (show Below w.heap.size w W1 by rw [hW1]; (repeat' (first | (with_reducible exact Below.refl _ _) | (with_reducible assumption) | (with_reducible refine below_drewN ?_ _) | (with_reducible refine Below.drew ?_) | (with_reducible refine Below.alloc ?_ ?_ _) | (with_reducible refine Below.setCell ?_ ?_ _) | (refine Below.trans ?_ (Below.mono (by assumption) ?_)) | go_size)))
        have va' := ((bcell HB1.out).1 bw _ hbw).trans va
        have vb' := ((bcell HB1.out).1 bw _ hbw).trans vb
        have hbw' : bw < W1.heap.size := Nat.lt_of_lt_of_le hbw HB1.out.size
        have hjal : (ja : Int) < (W.length : Int) := by omega
        have hjbl : (jb : Int) < (W.length : Int) := by omega
        have h0l : (0 : Int) < (W.length : Int) := by omega
        clear va vb hbw HR HE hA2 hB2
        go_enter Tryz.func107, Tryz.ntmps107
        go_wp2_with (go_at_call 131; refine (qwithin_any _ _ _ _).mono ?_; rintro e w' ⟨rfl, rfl⟩)
        rw [← hW1]
        clear hW1
        obtain ⟨cHX, fHX, sHX, nHX⟩ := HX.out.all
        try simp only [cbox] at cHX
        refine region_ext (by kernel_rfl) (by kernel_rfl) (fun hext => ?_)
        repeat (any_goals ((with_reducible refine wpQuiet_step (fun K hK => ?_)); go_simp; first | (with_reducible refine hK _ ?_; clear hK K) | ((with_reducible apply Exists.intro); (with_reducible refine ⟨fun _ => ?_, hK _ ?_⟩); ((go_at_call 132; (with_reducible refine ext_call _ ?_ (HOF.out _ (Below.step' HB1.out (Ext.below _)))); simp)); clear hK K) | ((with_reducible refine (if_neg ?_).mpr (hK _ ?_)); (decide); clear hK K) | (split <;> (with_reducible refine hK _ ?_; clear hK K))))
        all_goals ((with_reducible refine wpQuiet_nil ?_); clear hext; intro w1 hx1; have hb1 := ext_below hx1; clear hx1)
        have HB2 := hid (Below.step' HB1.out hb1)
        clear hb1
        go_wp2
        go_ret
        exact ⟨rfl, HB2.out⟩
      · have hp' : ((0 : Int) < (sl.length : Int)) = True := eq_true (by have := of_decide_eq_true hp; omega)
        go_enter Tryz.func107, Tryz.ntmps107
        go_wp2_with (go_at_call 131; refine (qwithin_any _ _ _ _).mono ?_; rintro e w' ⟨rfl, rfl⟩)
        go_ret
        exact ⟨ret_int (by rw [HR.out]; simp [stW, tblB, badStep, twoB, hA, hB, hp]), by (repeat' (first | (with_reducible exact Below.refl _ _) | (with_reducible assumption) | (with_reducible refine below_drewN ?_ _) | (with_reducible refine Below.drew ?_) | (with_reducible refine Below.alloc ?_ ?_ _) | (with_reducible refine Below.setCell ?_ ?_ _) | (refine Below.trans ?_ (Below.mono (by assumption) ?_)) | go_size))⟩
set_option maxHeartbeats 1000000 in
set_option maxRecDepth 100000 in
theorem width_k0 (sk sa sb sc so sv : Int) (sl : List Int) (sA : Option Addr) (sK : Nat) (W : List Int) (WA : Option Addr) (Wc : Nat) (w : World) (hl : Row w w.heap.size sA (icells' sl)) (hll : sl.length ≤ 9223372036854775807) (hW : Row w w.heap.size WA (icells' W)) (hW8 : W.length ≤ 8) (hr : ∀ v ∈ W, 1 ≤ v ∧ v ≤ 8) (hk : sk ≠ 1 ∧ sk ≠ 3 ∧ sk ≠ 4 ∧ sk ≠ 5 ∧ sk ≠ 6) :
    Calls Tryz.prog 107 #[.agg #[.int .i64 sk, .int .i64 sa, .int .i64 sb, .int .i64 sc, .int .i64 so, .int .i64 sv, .slice sA sl.length sK], .slice WA W.length Wc] w fun e w' => e = .returned (.int .i64 (stW ⟨sk, sa, sb, sc, so, sv, sl⟩ W)) ∧ Below w.heap.size w w' := by
  obtain ⟨R, hR⟩ : ∃ R, R = stW ⟨sk, sa, sb, sc, so, sv, sl⟩ W := ⟨_, rfl⟩
  rw [← hR]
  have HR := hid hR
  clear hR
  have HL := hid hl
  have HRW := hid hW
  clear hl hW
  have hwl : IntKind.i64.wrap ((W.length : Int) - 1) = (W.length : Int) - 1 := IntWalk.i64_in _ (by omega)
  obtain ⟨k1, k3, k4, k5, k6⟩ := hk
  have e1 : (sk == 1) = false := by simpa using k1
  have e3 : (sk == 3) = false := by simpa using k3
  have e4 : (sk == 4) = false := by simpa using k4
  have e5 : (sk == 5) = false := by simpa using k5
  have e6 : (sk == 6) = false := by simpa using k6
  cases hA : wiB sa 0 ((W.length : Int) - 1)
  · go_enter Tryz.func107, Tryz.ntmps107
    go_wp2_with (go_at_call 131; refine (qwithin_any _ _ _ _).mono ?_; rintro e w' ⟨rfl, rfl⟩)
    go_ret
    exact ⟨ret_int (by rw [HR.out]; simp [stW, tblB, badStep, twoB, hA, k1, k3, k4, k5, k6]), by (repeat' (first | (with_reducible exact Below.refl _ _) | (with_reducible assumption) | (with_reducible refine below_drewN ?_ _) | (with_reducible refine Below.drew ?_) | (with_reducible refine Below.alloc ?_ ?_ _) | (with_reducible refine Below.setCell ?_ ?_ _) | (refine Below.trans ?_ (Below.mono (by assumption) ?_)) | go_size))⟩
  · cases hn : (sb != 0)
    · have hn' : (sb == 0) = true := by rw [Bool.eq_iff_iff]; simpa using hn
      cases hp : decide (0 < sl.length)
      · have hp' : ((0 : Int) < (sl.length : Int)) = False := eq_false (by have := of_decide_eq_false hp; omega)
        have hA2 := wiB_iff.1 hA
        obtain ⟨ja, rfl⟩ : ∃ ja : Nat, sa = (ja : Int) := ⟨sa.toNat, by omega⟩
        have hja : ja < W.length := by omega
        obtain ⟨bw, ow, rfl, hbw, va⟩ := HRW.out.int' hja
        obtain rfl : sb = 0 := by simpa using hn
        obtain ⟨jb, hjb0⟩ : ∃ jb : Nat, jb = 0 := ⟨0, rfl⟩
        have hjb : jb < W.length := by omega
        obtain ⟨bw', ow', e', -, vb⟩ := HRW.out.int' hjb
        injection e' with e'
        injection e' with q1 q2
        subst q1 q2
        subst hjb0
        simp only [Nat.add_zero] at vb
        have hu := hr W[ja] (List.getElem_mem hja)
        have hv := hr W[0] (List.getElem_mem hjb)
        have HE : Hid (R = ofW ⟨sk, ja, 0, sc, so, sv, sl⟩ W[ja] W[0]) := hid (by
          rw [HR.out]
          have e1 : W.getD ja 0 = W[ja] := by rw [List.getD_eq_getElem?_getD, List.getElem?_eq_getElem hja]; rfl
          have e2 : W.getD 0 0 = W[0] := by rw [List.getD_eq_getElem?_getD, List.getElem?_eq_getElem hjb]; rfl
          have e3 : badStep ⟨sk, ja, 0, sc, so, sv, sl⟩ ((W.length : Int) - 1) = false := by simp [badStep, twoB, hA, hn, hp, k1, k3, k4, k5, k6]
          unfold stW
          simp only [e3, Int.toNat_natCast, e1]
          rw [if_neg (by omega), if_neg (by simp)]
          rw [show ((0 : Int)).toNat = 0 from rfl, e2])
        generalize W[ja] = u at *
        generalize W[0] = v at *
        have HOF := hid (fun w1 (hbb : Below w.heap.size w w1) => of_any' ⟨⟨sk, ja, 0, sc, so, sv, sl⟩, sA, sK⟩ u v w1 (by omega) (by omega) (HL.out.step hbb) hll)
        simp only [SR.cells] at HOF
        rw [← HE.out] at HOF
        obtain ⟨W1, hW1⟩ : ∃ W1 : World, W1 = w.alloc (.cells #[.int .i64 sk, .int .i64 (ja : Int), .int .i64 0, .int .i64 sc, .int .i64 so, .int .i64 sv, .slice sA sl.length sK] 89) := ⟨_, rfl⟩
        have HX := hid (show Blk W1 w.heap.size #[.int .i64 sk, .int .i64 (ja : Int), .int .i64 0, .int .i64 sc, .int .i64 so, .int .i64 sv, .slice sA sl.length sK] 89 by rw [hW1]; exact Blk.new _ _ _)
        have HB1 := hid (show Below w.heap.size w W1 by rw [hW1]; (repeat' (first | (with_reducible exact Below.refl _ _) | (with_reducible assumption) | (with_reducible refine below_drewN ?_ _) | (with_reducible refine Below.drew ?_) | (with_reducible refine Below.alloc ?_ ?_ _) | (with_reducible refine Below.setCell ?_ ?_ _) | (refine Below.trans ?_ (Below.mono (by assumption) ?_)) | go_size)))
        have va' := ((bcell HB1.out).1 bw _ hbw).trans va
        have vb' := ((bcell HB1.out).1 bw _ hbw).trans vb
        have hbw' : bw < W1.heap.size := Nat.lt_of_lt_of_le hbw HB1.out.size
        have hjal : (ja : Int) < (W.length : Int) := by omega
        have h0l : (0 : Int) < (W.length : Int) := by omega
        clear va vb hbw HR HE hA2
        go_enter Tryz.func107, Tryz.ntmps107
        go_wp2_with (go_at_call 131; refine (qwithin_any _ _ _ _).mono ?_; rintro e w' ⟨rfl, rfl⟩)
        rw [← hW1]
        clear hW1
        obtain ⟨cHX, fHX, sHX, nHX⟩ := HX.out.all
        try simp only [cbox] at cHX
        refine region_ext (by kernel_rfl) (by kernel_rfl) (fun hext => ?_)
        repeat (any_goals ((with_reducible refine wpQuiet_step (fun K hK => ?_)); go_simp; first | (with_reducible refine hK _ ?_; clear hK K) | ((with_reducible apply Exists.intro); (with_reducible refine ⟨fun _ => ?_, hK _ ?_⟩); ((go_at_call 132; (with_reducible refine ext_call _ ?_ (HOF.out _ (Below.step' HB1.out (Ext.below _)))); simp)); clear hK K) | ((with_reducible refine (if_neg ?_).mpr (hK _ ?_)); (decide); clear hK K) | (split <;> (with_reducible refine hK _ ?_; clear hK K))))
        all_goals ((with_reducible refine wpQuiet_nil ?_); clear hext; intro w1 hx1; have hb1 := ext_below hx1; clear hx1)
        have HB2 := hid (Below.step' HB1.out hb1)
        clear hb1
        go_wp2
        go_ret
        exact ⟨rfl, HB2.out⟩
      · have hp' : ((0 : Int) < (sl.length : Int)) = True := eq_true (by have := of_decide_eq_true hp; omega)
        go_enter Tryz.func107, Tryz.ntmps107
        go_wp2_with (go_at_call 131; refine (qwithin_any _ _ _ _).mono ?_; rintro e w' ⟨rfl, rfl⟩)
        go_ret
        exact ⟨ret_int (by rw [HR.out]; simp [stW, tblB, badStep, twoB, hA, hn, hp, k1, k3, k4, k5, k6]), by (repeat' (first | (with_reducible exact Below.refl _ _) | (with_reducible assumption) | (with_reducible refine below_drewN ?_ _) | (with_reducible refine Below.drew ?_) | (with_reducible refine Below.alloc ?_ ?_ _) | (with_reducible refine Below.setCell ?_ ?_ _) | (refine Below.trans ?_ (Below.mono (by assumption) ?_)) | go_size))⟩
    · have hn' : (sb == 0) = false := by rw [Bool.eq_false_iff]; simpa using hn
      go_enter Tryz.func107, Tryz.ntmps107
      go_wp2_with (go_at_call 131; refine (qwithin_any _ _ _ _).mono ?_; rintro e w' ⟨rfl, rfl⟩)
      go_ret
      exact ⟨ret_int (by rw [HR.out]; simp [stW, tblB, badStep, twoB, hA, hn, k1, k3, k4, k5, k6]), by (repeat' (first | (with_reducible exact Below.refl _ _) | (with_reducible assumption) | (with_reducible refine below_drewN ?_ _) | (with_reducible refine Below.drew ?_) | (with_reducible refine Below.alloc ?_ ?_ _) | (with_reducible refine Below.setCell ?_ ?_ _) | (refine Below.trans ?_ (Below.mono (by assumption) ?_)) | go_size))⟩

/-- query.width tells a step's width by those ahead. -/
theorem width_any' (x : SR) (W : List Int) (WA : Option Addr) (Wc : Nat) (w : World) (hl : Row w w.heap.size x.A (icells' x.st.list)) (hll : x.st.list.length ≤ 9223372036854775807) (hW : Row w w.heap.size WA (icells' W)) (hW8 : W.length ≤ 8) (hr : ∀ v ∈ W, 1 ≤ v ∧ v ≤ 8) :
    Calls Tryz.prog 107 #[.agg x.cells.toArray, .slice WA W.length Wc] w fun e w' => e = .returned (.int .i64 (stW x.st W)) ∧ Below w.heap.size w w' := by
  obtain ⟨⟨sk, sa, sb, sc, so, sv, sl⟩, sA, sK⟩ := x
  simp only at hl hll
  by_cases k1 : sk = 1
  · subst k1; exact width_k1 sa sb sc so sv sl sA sK W WA Wc w hl hll hW hW8 hr
  by_cases k3 : sk = 3
  · subst k3; exact width_k3 sa sb sc so sv sl sA sK W WA Wc w hl hll hW hW8 hr
  by_cases k4 : sk = 4
  · subst k4; exact width_k4 sa sb sc so sv sl sA sK W WA Wc w hl hll hW hW8 hr
  by_cases k5 : sk = 5
  · subst k5; exact width_k5 sa sb sc so sv sl sA sK W WA Wc w hl hll hW hW8 hr
  by_cases k6 : sk = 6
  · subst k6; exact width_k6 sa sb sc so sv sl sA sK W WA Wc w hl hll hW hW8 hr
  exact width_k0 sk sa sb sc so sv sl sA sK W WA Wc w hl hll hW hW8 hr ⟨k1, k3, k4, k5, k6⟩
end Go.Proofs.YtldlmkfigjicgaaGreatDoor
/- query.widths, query.Check. -/
namespace Go.Proofs.YtldlmkfigjicgaaGreatDoor
set_option linter.unusedVariables false
set_option linter.unusedSimpArgs false
open Go.ChangeShapes Go.WideShapes Go.ChangeAt Go.RowKit

theorem info_intQ : (Tryz.prog.info? 3).map (fun i => (i.zero, i.size, i.bytes)) = some (some (.int .i64 0), 1, 8) := by kernel_rfl
theorem icellsQ_snoc (l : List Int) (x : Int) : icells' (l ++ [x]) = icells' l ++ icells' [x] := by simp
theorem icellsQ_one (l : List Int) : ∀ u ∈ icells' l, u.oneCell' = true := by
  intro u hu
  obtain ⟨x, -, rfl⟩ := List.mem_map.1 hu
  rfl
theorem widsL_drop {L : List St} {i : Nat} (h : i < L.length) (V : List Int) : widsL (L.drop i) V = if stW L[i] V = 0 then none else widsL (L.drop (i + 1)) (V ++ [stW L[i] V]) := by
  rw [List.drop_eq_getElem_cons h, widsL]

/-- Widths of a call's own making, and an error. -/
def WidsPost (V : List Int) (x : Int) (w : World) (e : Ending) (w' : World) : Prop :=
  ∃ v, e = .returned (.tuple #[v, .int .i64 x]) ∧ w'.ownsRow w.heap.size 3 1 v V.length (icells' V) ∧ Below w.heap.size w w'
theorem widsPost_mk {V V' : List Int} {E x : Int} {w w' : World} {v : Value} (hx : E = x) (hV : V = V') (ho : w'.ownsRow w.heap.size 3 1 v V'.length (icells' V')) (hb : Below w.heap.size w w') : WidsPost V E w (.returned (.tuple #[v, .int .i64 x])) w' := by
  subst hx hV; exact ⟨v, rfl, ho, hb⟩

set_option maxHeartbeats 1000000 in
set_option maxRecDepth 100000 in
theorem widths_any (L : List SR) (A : Option Addr) (c : Nat) (w : World) (hr : RowS w w.heap.size A L) (hl : L.length ≤ 9223372036854775807) :
    Calls Tryz.prog 88 #[.slice A L.length c] w (WidsPost (queryW (sts L)) (queryE (sts L)) w) := by
  have HR := hid hr
  have HW := hid (show queryW (sts L) = if queryE (sts L) = 0 then (widsL (sts L) []).getD [] else [] from rfl)
  have HE := hid (show queryE (sts L) = if (sts L).length = 0 then 1 else if 8 < (sts L).length then 2 else if widsL (sts L) [] = none then 1 else 0 from rfl)
  obtain ⟨E, hE⟩ : ∃ q, q = queryE (sts L) := ⟨_, rfl⟩
  obtain ⟨X, hX⟩ : ∃ q, q = queryW (sts L) := ⟨_, rfl⟩
  rw [← hE, ← hX] at HW ⊢
  rw [← hE] at HE
  have hsl : (sts L).length = L.length := List.length_map ..
  rw [hsl] at HE
  obtain ⟨i1, hi0, hz0, hz1, hz2⟩ := info_parts info_intQ
  clear hE hX hr hsl
  have HN := hid (fun h : E ≠ 0 => show X = [] by rw [HW.out, if_neg h])
  by_cases h0 : L.length = 0
  · have t0 : ((L.length : Int) == 0) = true := by rw [h0]; rfl
    have HE1 := hid (show E = 1 by rw [HE.out, if_pos h0])
    clear h0
    go_enter Tryz.func88, Tryz.ntmps88
    go_wp2_with fail
    go_ret2
    exact widsPost_mk HE1.out (HN.out (by rw [HE1.out]; decide)) (World.ownsRow_nil _ _ _ _) (Below.refl _ _)
  have t0 : ((L.length : Int) == 0) = false := beq_eq_false_iff_ne.2 (by omega)
  by_cases h8 : 8 < L.length
  · have t8 : ((8 : Int) < (L.length : Int)) = True := eq_true (by omega)
    have HE1 := hid (show E = 2 by rw [HE.out, if_neg h0, if_pos h8])
    clear h0 h8
    go_enter Tryz.func88, Tryz.ntmps88
    go_wp2_with fail
    go_ret2
    exact widsPost_mk HE1.out (HN.out (by rw [HE1.out]; decide)) (World.ownsRow_nil _ _ _ _) (Below.refl _ _)
  have t8 : ((8 : Int) < (L.length : Int)) = False := eq_false (by omega)
  replace HE : Hid (E = if widsL (sts L) [] = none then 1 else 0) := hid (by rw [HE.out, if_neg h0, if_neg h8])
  have hl8 : L.length ≤ 8 := by omega
  clear h0 h8
  go_enter Tryz.func88, Tryz.ntmps88
  go_wp2_with fail
  -- STOP-a
  go_loopw [4, 18] (fun s4 s18 wr => ∃ (i : Nat) (V : List Int), i ≤ L.length ∧ s18 = .int .i64 i ∧ V.length = i ∧ Hid (widsL (sts L) [] = widsL ((sts L).drop i) V) ∧ Hid (∀ v ∈ V, 1 ≤ v ∧ v ≤ 8) ∧ Hid (wr.ownsRow w.heap.size 3 1 s4 V.length (icells' V)) ∧ Hid (Below w.heap.size w wr)) (fun _ s18 _ => L.length - (intOf s18).toNat)
  case atStart => exact ⟨0, [], by omega, rfl, rfl, hid rfl, hid (by simp), hid (World.ownsRow_nil _ _ _ _), hid (Below.refl _ _)⟩
  case round =>
    obtain ⟨i, V, hi, rfl, hVl, HWD, HVR, HOWN, HB⟩ := hrel
    obtain ⟨A4, c4, rfl⟩ := own_formS HOWN.out
    have HVL := hid hVl
    have hs := HB.out.size
    have hV8 : V.length ≤ 8 := by omega
    clear hVl
    by_cases hlt : i < L.length
    · obtain ⟨b, off, rfl, hb, e0, e1, e2, e3, e4, e5, e6⟩ := (HR.out.1.step HB.out).sr hlt
      obtain ⟨xl, xll⟩ := (HR.out.2.step HB.out) L[i] (List.getElem_mem hlt)
      have hil : i < (sts L).length := by rw [sts, List.length_map]; exact hlt
      have HSD := hid (show widsL (sts L) [] = if stW L[i].st V = 0 then none else widsL ((sts L).drop (i + 1)) (V ++ [stW L[i].st V]) by
        rw [HWD.out, widsL_drop hil]; simp [sts])
      have HWI := hid (fun w1 (hbb : Below wr.heap.size wr w1) => width_any' L[i] V A4 c4 w1 (xl.step hbb) xll ((Row.of_ownS HOWN.out).step hbb) hV8 HVR.out)
      have HSR := hid (fun h : stW L[i].st V ≠ 0 => stW_range HVR.out h)
      generalize L[i] = x at *
      obtain ⟨⟨sk, sa, sb, sc, so, sv, sl⟩, sA, sK⟩ := x
      simp only [SR.cells] at e0 e1 e2 e3 e4 e5 e6 HWI HSD HSR
      obtain ⟨n, hn⟩ : ∃ n, n = stW ⟨sk, sa, sb, sc, so, sv, sl⟩ V := ⟨_, rfl⟩
      rw [← hn] at HWI HSD HSR
      have hne : (b = wr.heap.size) = False := by simp; omega
      clear hn xl xll hil
      obtain ⟨wo, rfl⟩ : ∃ wx : World, wx = wr := ⟨_, rfl⟩
      by_cases q0 : n = 0
      · subst q0
        have HE1 := hid (show E = 1 by rw [HE.out, HSD.out, if_pos rfl, if_pos rfl])
        go_wp2_with fail
        -- STOP-b
        refine (HWI.out _ (by exact (Below.refl _ _).alloc (Nat.le_refl _) _)).mono ?_
        rintro e w1 ⟨rfl, hb1⟩
        have hB1 : Below wo.heap.size wo w1 := (by refine Below.step' ?_ hb1; (repeat' (first | (with_reducible exact Below.refl _ _) | (with_reducible assumption) | (with_reducible refine below_drewN ?_ _) | (with_reducible refine Below.drew ?_) | (with_reducible refine Below.alloc ?_ ?_ _) | (with_reducible refine Below.setCell ?_ ?_ _) | (refine Below.trans ?_ (Below.mono (by assumption) ?_)) | go_size)))
        have HB1 := hid hB1
        clear hb1 hB1
        go_wp2_with fail
        go_ret2
        exact widsPost_mk HE1.out (HN.out (by rw [HE1.out]; decide)) (World.ownsRow_nil _ _ _ _) (Below.step' HB.out HB1.out)
      · have t1 : (n == 0) = false := beq_eq_false_iff_ne.2 q0
        have HSN := hid (show widsL (sts L) [] = widsL ((sts L).drop (i + 1)) (V ++ [n]) by rw [HSD.out, if_neg q0])
        have HNR := hid (HSR.out q0)
        clear q0
        go_wp2_with fail
        -- STOP-c
        refine (HWI.out _ (by exact (Below.refl _ _).alloc (Nat.le_refl _) _)).mono ?_
        rintro e w1 ⟨rfl, hb1⟩
        have hB1 : Below wo.heap.size wo w1 := (by refine Below.step' ?_ hb1; (repeat' (first | (with_reducible exact Below.refl _ _) | (with_reducible assumption) | (with_reducible refine below_drewN ?_ _) | (with_reducible refine Below.drew ?_) | (with_reducible refine Below.alloc ?_ ?_ _) | (with_reducible refine Below.setCell ?_ ?_ _) | (refine Below.trans ?_ (Below.mono (by assumption) ?_)) | go_size)))
        have HB1 := hid hB1
        have hs1 := hB1.size
        have HO1 := hid (own_laterS HOWN.out hB1)
        clear hb1 hB1
        go_wp2_with (at_builtin; refine wpList_append_own _ rfl _ _ 30 rfl w.heap.size 3 i1 _ 1 8 Tryz.underlying30 hi0 hz0 hz1 hz2 rfl (by decide) _ _ _ rfl (HO1.out.alloc _) ⟨w1.heap.size, 0, none⟩ 1 1 (icells' [n]) rfl rfl (news_at _ [.int .i64 n] _ _ rfl) (icellsQ_one _) ?_ ?_ ?_ ?_; rotate_right; intro v6 w6 hown6 hg6 _; rotate_left; (simp only [maxLen]; omega); (omega); (simp; omega))
        -- STOP-d
        have HOW6 := hid hown6
        have HG6 := hid hg6
        clear hown6 hg6
        go_roundw
        case rel =>
          refine ⟨i + 1, V ++ [n], by omega, by go_num, by have := HVL.out; simp; omega, HSN, hid (fun v hv => ?_), hid ?_, hid (Below.grown (alloc_below (Below.step' HB.out HB1.out) _) HG6.out (by simp; omega) (fun g e => (HO1.out.lt g e).1))⟩
          · rcases List.mem_append.1 hv with q | q
            · exact HVR.out v q
            · rw [List.mem_singleton.1 q]; exact HNR.out
          · rw [icellsQ_snoc, List.length_append]
            simpa using HOW6.out
        case measure => simp [intOf]; omega
    · have hik : i = L.length := by omega
      have hdr : (sts L).drop i = [] := List.drop_eq_nil_of_le (by rw [sts, List.length_map]; omega)
      have HE0 := hid (show E = 0 by rw [HE.out, HWD.out, hdr, widsL, if_neg (by simp)])
      have HX0 := hid (show X = V by rw [HW.out, if_pos HE0.out, HWD.out, hdr, widsL]; rfl)
      clear hdr
      subst hik
      go_wp2_with fail
      -- STOP-e
      go_ret2
      exact widsPost_mk HE0.out HX0.out HOWN.out HB.out

set_option maxRecDepth 100000 in
theorem qcheck_any (L : List SR) (A : Option Addr) (c : Nat) (w : World) (hr : RowS w w.heap.size A L) (hl : L.length ≤ 9223372036854775807) :
    Calls Tryz.prog 58 #[.slice A L.length c] w fun e w' => e = .returned (.int .i64 (queryE (sts L))) ∧ Below w.heap.size w w' := by
  have HW := hid (widths_any L A c w hr hl)
  obtain ⟨E, hE⟩ : ∃ q, q = queryE (sts L) := ⟨_, rfl⟩
  rw [← hE] at HW ⊢
  clear hE hr
  go_enter Tryz.func58, Tryz.ntmps58
  go_wp2_with fail
  refine HW.out.mono ?_
  rintro e w1 ⟨v, rfl, -, hb1⟩
  have HB := hid hb1
  clear hb1
  go_wp2_with fail
  go_ret
  exact ⟨rfl, HB.out⟩
end Go.Proofs.YtldlmkfigjicgaaGreatDoor
/- rank.order: the comparison by columns; slices.SortFunc at items by it. -/
namespace Go.Proofs.YtldlmkfigjicgaaGreatDoor
set_option linter.unusedVariables false
set_option linter.unusedSimpArgs false
open Go.ChangeShapes Go.WideShapes Go.ChangeAt Go.RowKit Go.Shelf Go.Lib Go.Sort

/-- A world that is another one, with more memory and more drawn. -/
def Grew (w w' : World) : Prop := ∃ q os, w' = grow (w.drewN q) os
theorem Grew.alloc {w w' : World} (h : Grew w w') (o : Obj) : Grew w (w'.alloc o) := by
  obtain ⟨q, os, rfl⟩ := h
  exact ⟨q, os ++ #[o], by rw [alloc_eq_grow, grow_grow]⟩
theorem Grew.drewN {w w' : World} (h : Grew w w') (n : Nat) : Grew w (w'.drewN n) := by
  obtain ⟨q, os, rfl⟩ := h
  exact ⟨q + n, os, by simp [grow, World.drewN, Nat.add_assoc]⟩
theorem Grew.refl (w : World) : Grew w w := ⟨0, #[], by simp [grow, World.drewN]⟩
theorem Grew.below {w w' : World} (h : Grew w w') : Below w.heap.size w w' := by
  obtain ⟨q, os, rfl⟩ := h
  refine ⟨rfl, rfl, rfl, by simp [grow, World.drewN], fun k hk => ?_⟩
  simp [grow, World.drewN, Array.getElem?_append, hk]

/-- The numbers of an order fit rows of so many columns. -/
def ByOk (n : Nat) (bs : List Int) : Prop := ∀ k ∈ bs, k ≠ 0 ∧ -(n : Int) ≤ k ∧ k ≤ n

end Go.Proofs.YtldlmkfigjicgaaGreatDoor
/- slices.Clone at Item; slices.SortFunc at Item by an order of columns. -/
namespace Go.Proofs.YtldlmkfigjicgaaGreatDoor
set_option linter.unusedVariables false
set_option linter.unusedSimpArgs false
open Go.ChangeShapes Go.WideShapes Go.ChangeAt Go.RowKit Go.Shelf Go.Lib Go.Sort

/-- A list of a call's own making, of given cells. -/
def OwnPost (T : TypeId) (s n : Nat) (xs : List Value) (w : World) (e : Ending) (w' : World) : Prop := ∃ v, e = .returned v ∧ w'.ownsRow w.heap.size T s v n xs ∧ Below w.heap.size w w'
set_option maxHeartbeats 400000 in
set_option maxRecDepth 100000 in
theorem cloneIt_any (M : List IR) (A : Option Addr) (c : Nat) (w : World) (hr : Row w w.heap.size A (rcells M)) (hl : M.length ≤ 1048576) :
    Calls Tryz.prog 83 #[.slice A M.length c] w (OwnPost 67 2 M.length (rcells M) w) := by
  rcases A with _ | ad
  · have he : M = [] := by
      rcases hr with h | ⟨b, off, h, _⟩
      · cases M with
        | nil => rfl
        | cons x M => simp [rcells, IR.cells] at h
      · cases h
    subst he
    have hnil := fun (w : World) => Lib.run_eql_slice_nil w (P := Tryz.prog) (t := 22) (e := 67) none 0 c 0 0 Tryz.underlying22
    go_enter Tryz.func83, Tryz.ntmps83
    go_wp2
    go_ret
    exact ⟨_, rfl, World.ownsRow_nil _ _ _ _, Below.refl _ _⟩
  · have hnil := fun (w : World) => Lib.run_eql_slice_nil w (P := Tryz.prog) (t := 22) (e := 67) (some ad) M.length c 0 0 Tryz.underlying22
    have HR := hid hr
    have h2 := rcells_len M
    clear hr
    go_enter Tryz.func83, Tryz.ntmps83
    go_wp2_with (at_builtin; refine wpList_append_row elem_item rfl _ _ rfl w.heap.size (.slice (some ⟨w.heap.size, 0, none⟩) 0 0) 0 [] rfl (World.ownsRow_made w #[] 0 (Nat.le_refl _) (by decide) rfl) (some ad) M.length c w.heap.size (rcells M) rfl ?_ (HR.out.below (Below.alloc (Below.refl _ _) (Nat.le_refl _) _) (Nat.le_refl _)) ?_ ?_ ?_ ?_ ?_; rotate_right; intro v1 w1 hown1 hg1 hat1; rotate_left; (exact h2); (exact rcells_one M); (simp only [maxLen]; omega); (omega); (simp))
    go_ret
    refine ⟨_, rfl, by simpa using hown1, ((Below.refl _ _).alloc (Nat.le_refl _) _).grown hg1 (by simp) (fun k hk => ?_)⟩
    simp [Value.ownBlock] at hk
    omega

/-- What is asked of the items that a sort by columns orders: their rows lie below B, and are of one width. -/
def RowN (w : World) (B n : Nat) (x : IR) : Prop := Row w B x.A (icells' x.row) ∧ x.row.length = n
def byCf {Q : IR → Prop} (bs : List Int) (x y : QI Q) : Int := cmpBy bs x.1.row y.1.row
theorem swo_by {Q : IR → Prop} (bs : List Int) : SWO (ltOf (byCf (Q := Q) bs)) where
  irrefl x := swo_it.irrefl (byKey bs x.1.row, 0)
  trans x y z h1 h2 := swo_it.trans (byKey bs x.1.row, 0) (byKey bs y.1.row, 0) (byKey bs z.1.row, 0) h1 h2
  ntrans x y z h1 h2 := swo_it.ntrans (byKey bs x.1.row, 0) (byKey bs y.1.row, 0) (byKey bs z.1.row, 0) h1 h2
theorem Caught.grown {w w' : World} {b off : Nat} {v : Value} (h : Caught w ⟨b, off, none⟩ v) {r : Option Nat} (hg : w.grownBy w' r) (hne : some b ≠ r) : Caught w' ⟨b, off, none⟩ v :=
  ⟨(World.cell?_of_block (w := w) (hg.block b h.2 hne)).trans h.1, Nat.lt_of_lt_of_le h.2 hg.size⟩
end Go.Proofs.YtldlmkfigjicgaaGreatDoor
