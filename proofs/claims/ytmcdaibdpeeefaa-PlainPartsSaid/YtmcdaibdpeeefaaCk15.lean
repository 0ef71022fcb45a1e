/- PnP, PnR, OpenC -/
import Derived.Test.YtmcdaibdpeeefaaCk14
import Derived.Test.YtmcdaibdpeeefaaCk07
/- viewref.Rest, slices.Clone at Step. -/
namespace Go.Proofs.Ytmcdaibdpeeefaa
set_option linter.unusedVariables false
set_option linter.unusedSimpArgs false
open Go.ChangeShapes Go.WideShapes Go.ChangeAt Go.RowKit

theorem elem_step : Elem Try.prog 40 49 7 72 := ⟨Try.underlying40, by
  obtain ⟨i, hi, hz, hs, hb⟩ := info_parts (P := Try.prog) (e := 49) (z := .agg #[.int .i64 0, .int .i64 0, .int .i64 0, .int .i64 0, .int .i64 0, .int .i64 0, .slice none 0 0]) (size := 7) (bytes := 72) (by kernel_rfl)
  exact ⟨i, _, hi, hz, hs, hb, rfl⟩, by decide⟩
set_option maxHeartbeats 400000 in
set_option maxRecDepth 100000 in
theorem cloneS_any (L : List SR) (A : Option Addr) (c : Nat) (w : World) (hr : Row w w.heap.size A (scells L)) (hl : L.length ≤ 1048576) :
    Calls Try.prog 23 #[.slice A L.length c] w (OwnPost 49 7 L.length (scells L) w) := by
  rcases A with _ | ad
  · have he : L = [] := by
      rcases hr with h | ⟨b, off, h, _⟩
      · cases L with
        | nil => rfl
        | cons x L => simp [scells, SR.cells] at h
      · cases h
    subst he
    have hnil := fun (w : World) => Lib.run_eql_slice_nil w (P := Try.prog) (t := 40) (e := 49) none 0 c 0 0 Try.underlying40
    go_enter Try.func23, Try.ntmps23
    go_wp2
    go_ret
    exact ⟨_, rfl, World.ownsRow_nil _ _ _ _, Below.refl _ _⟩
  · have hnil := fun (w : World) => Lib.run_eql_slice_nil w (P := Try.prog) (t := 40) (e := 49) (some ad) L.length c 0 0 Try.underlying40
    have HR := hid hr
    have h2 := scells_len L
    have hone : ∀ u ∈ scells L, u.oneCell' = true := by
      intro u hu
      obtain ⟨x, hx, hu⟩ := List.mem_flatMap.1 hu
      simp only [SR.cells, List.mem_cons, List.not_mem_nil, or_false] at hu
      rcases hu with rfl | rfl | rfl | rfl | rfl | rfl | rfl <;> rfl
    clear hr
    go_enter Try.func23, Try.ntmps23
    go_wp2_with (at_builtin; refine wpList_append_row elem_step rfl _ _ rfl w.heap.size (.slice (some ⟨w.heap.size, 0, none⟩) 0 0) 0 [] rfl (World.ownsRow_made w #[] 0 (Nat.le_refl _) (by decide) rfl) (some ad) L.length c w.heap.size (scells L) rfl ?_ (HR.out.below (Below.alloc (Below.refl _ _) (Nat.le_refl _) _) (Nat.le_refl _)) hone ?_ ?_ ?_ ?_; rotate_right; intro v1 w1 hown1 hg1 hat1; rotate_left; (exact h2); (simp only [maxLen]; omega); (omega); (simp))
    go_ret
    refine ⟨_, rfl, by simpa using hown1, ((Below.refl _ _).alloc (Nat.le_refl _) _).grown hg1 (by simp) (fun k hk => ?_)⟩
    simp [Value.ownBlock] at hk
    omega
set_option maxHeartbeats 400000 in
set_option maxRecDepth 100000 in
theorem rest_any (n : Int) (m : Nat) (hm : 0 < m) (hm2 : m ≤ 9223372036854775807) (w : World) :
    Calls Try.prog 21 #[.int .i64 n, .int .i64 m] w fun e w' => ∃ k : Nat, k < m ∧ e = .returned (.int .i64 k) ∧ w = w' := by
  have t0 : ((m : Int) == 0) = false := beq_eq_false_iff_ne.2 (by omega)
  have z1 : n.tmod (m : Int) < m := Int.tmod_lt_of_pos n (by omega)
  have z2 : -(m : Int) < n.tmod m := Int.lt_tmod_of_pos n (by omega)
  by_cases h : n.tmod (m : Int) < 0
  · have zw : IntKind.i64.wrap (n.tmod (m : Int) + m) = n.tmod (m : Int) + m := IntWalk.i64_in _ (by omega)
    go_enter Try.func21, Try.ntmps21
    go_wp2_with fail
    go_ret
    exact ⟨(n.tmod (m : Int) + m).toNat, by omega, ret_int (by omega), rfl⟩
  · have h' : (n.tmod (m : Int) < 0) = False := eq_false h
    go_enter Try.func21, Try.ntmps21
    go_wp2_with fail
    go_ret
    exact ⟨(n.tmod (m : Int)).toNat, by omega, ret_int (by omega), rfl⟩
end Go.Proofs.Ytmcdaibdpeeefaa
/- viewkeep.PlainParts. -/
namespace Go.Proofs.Ytmcdaibdpeeefaa
set_option linter.unusedVariables false
set_option linter.unusedSimpArgs false
open Go.ChangeShapes Go.WideShapes Go.ChangeAt Go.RowKit

theorem scells_app (L M : List SR) : scells (L ++ M) = scells L ++ scells M := List.flatMap_append
theorem scells_take (L : List SR) (n : Nat) : (scells L).take (n * 7) = scells (L.take n) := by rw [scells, scells, flat_take SR.len]
theorem RowS.take {w : World} {B : Nat} {A : Option Addr} {L : List SR} (h : RowS w B A L) (n : Nat) : RowS w B A (L.take n) := ⟨by rw [← scells_take]; exact h.1.take _, fun x hx => h.2 x (List.mem_of_mem_take hx)⟩
theorem sts_len (L : List SR) : (sts L).length = L.length := List.length_map ..
/-- A step without a list. -/
abbrev srN (s : St) : SR := ⟨⟨s.kind, s.a, s.b, s.col, s.op, s.val, []⟩, none, 0⟩
theorem steps_app {w : World} {B : Nat} {L : List SR} (h : StepsAt w B L) (l : List St) : StepsAt w B (L ++ l.map srN) := fun x hx => by
  rcases List.mem_append.1 hx with q | q
  · exact h x q
  · obtain ⟨s, hs, rfl⟩ := List.mem_map.1 q
    exact ⟨.inl rfl, by simp⟩

set_option maxHeartbeats 1000000 in
set_option maxRecDepth 100000 in
theorem plainParts_any (L : List SR) (A0 : Option Addr) (c0 : Nat) (M1 M2 : List IR) (A1 A2 : Option Addr) (c1 c2 : Nat) (n : Int) (w : World) (h0 : RowS w w.heap.size A0 L) (l0 : L.length ≤ 9223372036854775807) (lc : L.length ≤ c0) (h1 : RowI w w.heap.size A1 M1) (l1 : M1.length ≤ 9223372036854775807) (h2 : RowI w w.heap.size A2 M2) (l2 : M2.length ≤ 9223372036854775807) :
    Calls Try.prog 5 #[.slice A0 L.length c0, .slice A1 M1.length c1, .slice A2 M2.length c2, .int .i64 n] w fun e w' => e = .returned (.bool true) ∧ Below w.heap.size w w' := by
  have HR0 := hid h0
  have HR1 := hid h1
  have HR2 := hid h2
  clear h0 h1 h2
  have HAL := hid (fun w1 (hb : Below w.heap.size w w1) => all_any L M1 M2 A0 A1 A2 c0 c1 c2 w1 (HR0.out.step hb) l0 (HR1.out.step hb) l1 (HR2.out.step hb) l2)
  have HOK := hid (fun h : allE (sts L) (its M1) (its M2) = 0 => all_ok h)
  have HTK := hid (fun (h : allE (sts L) (its M1) (its M2) = 0) (k : Nat) (hk : k < (sts L).length) => take_law h hk)
  have HNO := hid (fun (h : allE (sts L) (its M1) (its M2) = 0) (hq : (sts L).length ≤ 6) => none_law h hq)
  have HON := hid (fun (h : allE (sts L) (its M1) (its M2) = 0) (hq : (sts L).length ≤ 6) => once_law h hq)
  have HEV := hid (fun (L' : List SR) A' c' w1 (hb : Below w.heap.size w w1) h' l' => eval_any L' M1 M2 A' A1 A2 c' c1 c2 w1 h' l' (HR1.out.step hb) l1 (HR2.out.step hb) l2)
  obtain ⟨T1, hT1⟩ : ∃ q, q = its M1 := ⟨_, rfl⟩
  obtain ⟨T2, hT2⟩ : ∃ q, q = its M2 := ⟨_, rfl⟩
  obtain ⟨E, hE⟩ : ∃ q, q = allE (sts L) (its M1) (its M2) := ⟨_, rfl⟩
  obtain ⟨X, hX⟩ : ∃ q, q = allX (sts L) (its M1) (its M2) := ⟨_, rfl⟩
  rw [← hE] at HAL HOK HTK HNO HON
  rw [← hX] at HAL HOK HTK
  rw [← hT1, ← hT2] at HEV HTK HNO HON
  clear hT1 hT2 hE hX
  go_enter Try.func5, Try.ntmps5
  go_wp2_with fail
  refine (counted_any w).mono ?_
  rintro e w1 ⟨rfl, hb1⟩
  have HBW := hid hb1
  clear hb1
  go_wp2_with fail
  -- STOP-a
  refine (HAL.out _ HBW.out).mono ?_
  rintro e w2 ⟨A9, c9, LL, rfl, hS, hown, hnew, hb2⟩
  replace HBW := hid (Below.step' HBW.out hb2)
  have HS := hid hS
  have HRL := hid (Row.of_ownS hown)
  have HRS := hid hnew.rows
  clear hS hown hnew hb2 HAL
  by_cases q0 : E = 0
  rotate_left
  · have t1 : (E != 0) = true := by simpa using q0
    clear q0
    go_wp2_with fail
    go_ret
    exact ⟨rfl, HBW.out⟩
  subst q0
  obtain ⟨Wf, -, ho2, ho3, ho4⟩ := HOK.out rfl
  rw [sts_len] at ho3 ho4
  have hLL : LL.length = L.length := by rw [← ho3, ← HS.out, setsOf_len]
  have t2 : ((L.length : Int) == 0) = false := beq_eq_false_iff_ne.2 (by omega)
  have HO2 := hid ho2
  have HLL := hid hLL
  clear ho2 hLL ho3 HOK
  by_cases q6 : 6 < L.length
  · have t3 : (6 < (L.length : Int)) = True := eq_true (by omega)
    clear q6
    go_wp2_with fail
    go_ret
    exact ⟨rfl, HBW.out⟩
  have t3 : (6 < (L.length : Int)) = False := eq_false (by omega)
  have h6 : L.length ≤ 6 := by omega
  clear q6
  replace HTK := hid (fun k hk => HTK.out rfl k hk)
  replace HNO := hid (HNO.out rfl (by rw [sts_len]; exact h6))
  replace HON := hid (HON.out rfl (by rw [sts_len]; exact h6))
  rw [sts_len] at HNO HON
  have HRE := hid (fun w1 => rest_any n L.length ho4 l0 w1)
  go_wp2_with fail
  -- STOP-b
  refine (HRE.out _).mono ?_
  rintro e w3 ⟨k, hk, rfl, rfl⟩
  obtain ⟨k1, hk1⟩ : ∃ k1 : Nat, k1 = k + 1 := ⟨_, rfl⟩
  have hw1 : IntKind.i64.wrap ((k : Int) + 1) = (k1 : Int) := by rw [IntWalk.i64_in _ (by omega)]; omega
  have hkc : (k1 : Int) ≤ (c0 : Int) := by omega
  have hkl : k < LL.length := by have := HLL.out; omega
  obtain ⟨tk1, tk2⟩ := HTK.out k (by rw [sts_len]; exact hk)
  have hst : (sts L).take (k + 1) = sts (L.take k1) := by rw [hk1, sts, sts, List.map_take]
  have htl : (L.take k1).length = k1 := by rw [List.length_take]; omega
  obtain ⟨b, off, rfl, hb, g0⟩ := HRL.out.lr hkl
  have hS2 : its LL[k].L = X.getD k [] := by rw [← HS.out, setsOf_getD hkl]
  have HLS := hid (HRS.out _ (List.getElem_mem hkl))
  have hLl : LL[k].L.length ≤ 400 := by
    have := (HO2.out.2 k (by rw [← HS.out, setsOf_len]; exact hkl)).1
    rw [← HS.out, setsOf_getD hkl] at this
    exact len_set this
  have HEK := hid (fun w1 (hb : Below w.heap.size w w1) => HEV.out (L.take k1) A0 c0 w1 hb ((HR0.out.step hb).take k1) (by omega))
  rw [← hst, tk1, tk2, htl] at HEK
  rw [← hS2] at HEK
  generalize LL[k] = R at *
  obtain ⟨M, A, kc⟩ := R
  simp only at g0 HLS hS2 HEK hLl
  clear hst htl tk1 tk2 hS2 HTK hk1 HRE HRL HRS HO2
  have hkl' : (k : Int) < (LL.length : Int) := by omega
  go_wp2_with fail
  -- STOP-c
  refine (HEK.out _ HBW.out).mono ?_
  rintro e w4 ⟨A5, k5, M5, rfl, hi5, ho5, hn5, hb5⟩
  have hg0 := ((bcell hb5).1 b _ hb).trans g0
  have hb4 : b < w4.heap.size := Nat.lt_of_lt_of_le hb hb5.size
  replace HBW := hid (Below.step' HBW.out hb5)
  replace HLS := hid (HLS.out.step hb5)
  have hl5 : M5.length ≤ 400 := by rw [← its_len, hi5, its_len]; exact hLl
  have HSS := hid (sameSet_any M5 M A5 A k5 kc w4 ⟨Row.of_ownS ho5, hn5.rows⟩ (by omega) HLS.out (by omega))
  rw [hi5, decide_eq_true rfl] at HSS
  clear hi5 ho5 hn5 hb5 g0 HEK HLS
  go_wp2_with fail
  -- STOP-d
  refine HSS.out.mono ?_
  rintro e w5 ⟨rfl, hb5⟩
  replace HBW := hid (Below.step' HBW.out hb5)
  clear hb5 HSS hg0 hb4 hb
  obtain ⟨j, hj⟩ : ∃ j : Nat, (j : Int) = (L.length : Int) - 1 := ⟨L.length - 1, by omega⟩
  have hjw : IntKind.i64.wrap ((L.length : Int) - 1) = (j : Int) := by rw [IntWalk.i64_in _ (by omega), hj]
  rw [← hj] at HNO HON
  have HJ := hid (show (L.length : Int) = (j : Int) + 1 by omega)
  rw [HJ.out] at HON
  have hjw2 : IntKind.i64.wrap ((j : Int) + 1) = (j : Int) + 1 := IntWalk.i64_in _ (by omega)
  clear hj
  have HCL := hid (fun w1 (hb : Below w.heap.size w w1) => cloneS_any L A0 c0 w1 (HR0.out.step hb).1 (by omega))
  have HEL := hid (fun (l : List St) A' c' w1 (hb : Below w.heap.size w w1) (hr : Row w1 w1.heap.size A' (scells L ++ scells (l.map srN))) (hl : l.length ≤ 6) (hL : l.map (fun s => (srN s).st) = l) => show Calls Try.prog 22 #[.slice A' (L.length + l.length) c', .slice A1 M1.length c1, .slice A2 M2.length c2] w1 (ItsErr (evalX (sts L ++ l) T1 T2) (allE (sts L ++ l) T1 T2) w1) from by
    have h := HEV.out (L ++ l.map srN) A' c' w1 hb ⟨by rw [scells_app]; exact hr, steps_app (HR0.out.step hb).2 l⟩ (by rw [List.length_append, List.length_map]; omega)
    rw [List.length_append, List.length_map, show sts (L ++ l.map srN) = sts L ++ l by rw [sts, sts, List.map_append, List.map_map]; exact congrArg _ hL] at h
    exact h)
  clear HEV
  go_wp2_with fail
  -- STOP-e
  refine (HCL.out _ HBW.out).mono ?_
  rintro e w6 ⟨v6, rfl, ho6, hb6⟩
  obtain ⟨A6, k6, rfl⟩ := own_formS ho6
  have HO6 := hid ho6
  have HB6 := hid hb6
  have hs6 := hb6.size
  clear ho6 hb6
  have hone : ∀ u ∈ ([.int .i64 6, .int .i64 (j : Int), .int .i64 (j : Int), .int .i64 0, .int .i64 0, .int .i64 0, .slice none 0 0] : List Value), u.oneCell' = true := by
    intro u hu
    simp only [List.mem_cons, List.not_mem_nil, or_false] at hu
    rcases hu with rfl | rfl | rfl | rfl | rfl | rfl | rfl <;> rfl
  go_wp2_with (at_builtin; refine wpList_append_row elem_step rfl _ _ rfl w5.heap.size _ _ _ rfl (HO6.out.alloc _) (some ⟨w6.heap.size, 0, none⟩) 1 1 (w6.heap.size + 1) [.int .i64 6, .int .i64 (j : Int), .int .i64 (j : Int), .int .i64 0, .int .i64 0, .int .i64 0, .slice none 0 0] rfl rfl (Row.new' _ _ _ rfl rfl (Nat.lt_succ_self _)) hone ?_ ?_ ?_ ?_; rotate_right; intro v7 w7 hown7 hg7 hif7; rotate_left; (simp only [maxLen]; omega); (omega); (simp; omega); obtain ⟨A7, k7, rfl⟩ := own_formS hown7)
  -- STOP-f
  have HB7 := hid (Below.grown (alloc_below HB6.out _) hg7 (by simp; omega) (fun g e => (HO6.out.lt g e).1))
  have HR7 := hid (Row.of_ownS hown7)
  replace HBW := hid (Below.step' HBW.out HB7.out)
  clear hown7 hg7 hif7 hone hs6 HO6 HB6
  have h8 := HEL.out [⟨6, (j : Int), (j : Int), 0, 0, 0, []⟩] A7 k7 _ HBW.out HR7.out (by simp) rfl
  rw [HNO.out.1, HNO.out.2] at h8
  have H8 := hid h8
  clear h8
  go_wp2_with fail
  -- STOP-g
  refine H8.out.mono ?_
  rintro e w8 ⟨A8, k8, M8, rfl, hi8, ho8, hn8, hb8⟩
  replace HBW := hid (Below.step' HBW.out hb8)
  have hm0 : M8.length = 0 := by rw [← its_len, hi8]; rfl
  have t8 : ((M8.length : Int) != 0) = false := by rw [hm0]; rfl
  clear hi8 ho8 hn8 hb8 hm0 H8 HR7 HB7 HNO
  go_wp2_with fail
  -- STOP-h
  refine (HCL.out _ HBW.out).mono ?_
  rintro e w9 ⟨v6, rfl, ho6, hb6⟩
  obtain ⟨A6, k6, rfl⟩ := own_formS ho6
  have HO6 := hid ho6
  have HB6 := hid hb6
  have hs6 := hb6.size
  clear ho6 hb6
  have hone : ∀ u ∈ ([.int .i64 7, .int .i64 (j : Int), .int .i64 0, .int .i64 0, .int .i64 0, .int .i64 0, .slice none 0 0] : List Value), u.oneCell' = true := by
    intro u hu
    simp only [List.mem_cons, List.not_mem_nil, or_false] at hu
    rcases hu with rfl | rfl | rfl | rfl | rfl | rfl | rfl <;> rfl
  go_wp2_with (at_builtin; refine wpList_append_row elem_step rfl _ _ rfl w8.heap.size _ _ _ rfl (HO6.out.alloc _) (some ⟨w9.heap.size, 0, none⟩) 1 1 (w9.heap.size + 1) [.int .i64 7, .int .i64 (j : Int), .int .i64 0, .int .i64 0, .int .i64 0, .int .i64 0, .slice none 0 0] rfl rfl (Row.new' _ _ _ rfl rfl (Nat.lt_succ_self _)) hone ?_ ?_ ?_ ?_; rotate_right; intro v7 wa hown7 hg7 hif7; rotate_left; (simp only [maxLen]; omega); (omega); (simp; omega); obtain ⟨A7, k7, rfl⟩ := own_formS hown7)
  -- STOP-i
  have HB7 := hid (Below.grown (alloc_below HB6.out _) hg7 (by simp; omega) (fun g e => (HO6.out.lt g e).1))
  have HR7 := hid (Row.of_ownS hown7)
  replace HBW := hid (Below.step' HBW.out HB7.out)
  clear hown7 hg7 hif7 hone hs6 HO6 HB6
  have h8 := HEL.out [⟨7, (j : Int), 0, 0, 0, 0, []⟩] A7 k7 _ HBW.out HR7.out (by simp) rfl
  rw [HON.out.1] at h8
  have H8 := hid h8
  clear h8
  go_wp2_with fail
  -- STOP-j
  refine H8.out.mono ?_
  rintro e wb ⟨A8, k8, M8, rfl, hi8, ho8, hn8, hb8⟩
  replace HBW := hid (Below.step' HBW.out hb8)
  have HG8 : Hid (RowI wb wb.heap.size A8 M8) := hid ⟨Row.of_ownS ho8, hn8.rows⟩
  have HC8 := hid (own_capS ho8)
  have HI8 := hid hi8
  have hwb : wb.heap.size ≤ wb.heap.size := Nat.le_refl _
  clear hi8 ho8 hn8 hb8 H8 HR7 HB7
  obtain ⟨A8', rfl⟩ : ∃ q, q = A8 := ⟨_, rfl⟩
  go_wp2_with fail
  -- STOP-k
  refine (HCL.out _ HBW.out).mono ?_
  rintro e wc ⟨v6, rfl, ho6, hb6⟩
  obtain ⟨A6, k6, rfl⟩ := own_formS ho6
  have HO6 := hid ho6
  have HB6 := hid hb6
  have hs6 := hb6.size
  clear ho6 hb6
  have hone : ∀ u ∈ ([.int .i64 7, .int .i64 (j : Int), .int .i64 0, .int .i64 0, .int .i64 0, .int .i64 0, .slice none 0 0, .int .i64 7, .int .i64 (j + 1 : Int), .int .i64 0, .int .i64 0, .int .i64 0, .int .i64 0, .slice none 0 0] : List Value), u.oneCell' = true := by
    intro u hu
    simp only [List.mem_cons, List.not_mem_nil, or_false] at hu
    rcases hu with rfl | rfl | rfl | rfl | rfl | rfl | rfl | rfl | rfl | rfl | rfl | rfl | rfl | rfl <;> rfl
  go_wp2_with (at_builtin; refine wpList_append_row elem_step rfl _ _ rfl wb.heap.size _ _ _ rfl (HO6.out.alloc _) (some ⟨wc.heap.size, 0, none⟩) 2 2 (wc.heap.size + 1) [.int .i64 7, .int .i64 (j : Int), .int .i64 0, .int .i64 0, .int .i64 0, .int .i64 0, .slice none 0 0, .int .i64 7, .int .i64 (j + 1 : Int), .int .i64 0, .int .i64 0, .int .i64 0, .int .i64 0, .slice none 0 0] rfl rfl (Row.new' _ _ _ rfl rfl (Nat.lt_succ_self _)) hone ?_ ?_ ?_ ?_; rotate_right; intro v7 wd hown7 hg7 hif7; rotate_left; (simp only [maxLen]; omega); (omega); (simp; omega); obtain ⟨AB, kB, rfl⟩ := own_formS hown7)
  -- STOP-l
  have HB7 : Hid (Below wb.heap.size wb wd) := hid (Below.grown (alloc_below HB6.out _) hg7 (by simp; omega) (fun g e => (HO6.out.lt g e).1))
  have HR7 := hid (Row.of_ownS hown7)
  replace HBW := hid (Below.step' HBW.out HB7.out)
  replace HG8 := hid (HG8.out.step HB7.out)
  clear hown7 hg7 hif7 hone hs6 HO6 HB6
  have h8 := HEL.out [⟨7, (j : Int), 0, 0, 0, 0, []⟩, ⟨7, (j : Int) + 1, 0, 0, 0, 0, []⟩] AB kB _ HBW.out HR7.out (by simp) rfl
  rw [HON.out.2.1, ← HON.out.2.2] at h8
  have H8 := hid h8
  clear h8
  go_wp2_with fail
  -- STOP-m
  refine H8.out.mono ?_
  rintro e we ⟨AC, kC, MC, rfl, hi8, ho8, hn8, hb8⟩
  replace HBW := hid (Below.step' HBW.out hb8)
  replace HG8 := hid (HG8.out.step hb8)
  have HSS := hid (sameSet_any M8 MC A8' AC k8 kC we HG8.out (by have := HC8.out; simp only [maxLen] at this; omega) ⟨Row.of_ownS ho8, hn8.rows⟩ (by have := own_capS ho8; simp only [maxLen] at this; omega))
  rw [HI8.out, hi8, decide_eq_true rfl] at HSS
  clear hi8 ho8 hn8 hb8
  go_wp2_with fail
  -- STOP-n
  refine HSS.out.mono ?_
  rintro e wf ⟨rfl, hbf⟩
  replace HBW := hid (Below.step' HBW.out hbf)
  clear hbf
  go_wp2
  go_ret
  exact ⟨rfl, HBW.out⟩
end Go.Proofs.Ytmcdaibdpeeefaa
/- Arguments that are queries, with their room. -/
namespace Go.Proofs.Ytmcdaibdpeeefaa
set_option linter.unusedVariables false
set_option linter.unusedSimpArgs false
open Go.ChangeShapes Go.WideShapes Go.ChangeAt Go.RowKit Go.Deep

set_option maxRecDepth 100000 in
theorem arg_stepsC {H : Type} {enc : TypeId × Value → H} {w : World} {r : Reach} {b0 base : Nat} {spare : Nat → Bool} {held : Bool} {v : Value} {d : DataW H} {p : List MemPlace}
    (hv : Value.okWide Try.prog w r b0 40 v) (h : DataW.Trod enc Try.prog w base spare held 40 v d p) :
    ∃ (A : Option Addr) (k : Nat) (L : List SR), v = .slice A L.length k ∧ RowS w w.heap.size A L ∧ L.length ≤ 9223372036854775807 ∧ L.length ≤ k := by
  obtain ⟨A, k, L, rfl, h1, h2⟩ := arg_steps hv h
  refine ⟨A, k, L, rfl, h1, h2, ?_⟩
  obtain ⟨m, hm⟩ := h
  rcases open_slice Try.underlying40 hm with ⟨e, hx⟩ | ⟨a, len, cap, m, n', D, Pl, e, hb, hl, hm, hmm, hx, hi⟩
  · simp only [Value.cells, List.cons.injEq, and_true] at e
    injection e with e1 e2 e3
    omega
  · simp only [Value.cells, List.cons.injEq, and_true] at e
    injection e with e1 e2 e3
    omega
end Go.Proofs.Ytmcdaibdpeeefaa
