/- PnG, PnH, PnI, IvA, IvM -/
import Derived.Test.YtldlmkfigjicgaaGreatDoorIncPlaysCardS09
import Derived.Maps.OwnSet
import Derived.Maps.Ext
/- plain.Groups: a map from a column's numbers to groups. -/
namespace Go.Proofs.YtldlmkfigjicgaaGreatDoor
set_option linter.unusedVariables false
set_option linter.unusedSimpArgs false
open Go.ChangeShapes Go.WideShapes Go.ChangeAt Go.RowKit

abbrev kI (k : Int) : Lit := .int .i64 k
theorem kI_ne {a b : Int} (h : a ≠ b) : kI a ≠ kI b := fun e => h (by injection e)
theorem isKeyI (k : Int) : WideAt.IsKeyLit (kI k) := trivial
theorem int_law : Maps.Keyed Tryz.prog 3 := Maps.int_keyed Tryz.underlying3
theorem wf_i64 {k : Int} (h : -9223372036854775808 ≤ k ∧ k ≤ 9223372036854775807) : (Lit.int .i64 k).wf = true := by
  simp [Lit.wf, IntKind.min, IntKind.max, IntKind.signed, IntKind.bits]; omega
theorem keyOf_I {k : Int} (h : -9223372036854775808 ≤ k ∧ k ≤ 9223372036854775807) : keyOf Tryz.prog 3 (.int .i64 k) = some (kI k) := Maps.keyOf_int_mk Tryz.underlying3 (wf_i64 h)
def grpD (n m : Int) : DataW Unit := .agg [.lit (.int .i64 n), .lit (.int .i64 m)]
abbrev grpv (n m : Int) : Value := .agg #[.int .i64 n, .int .i64 m]
def grpElem : Value → Option (DataW Unit × List MemPlace)
  | .agg cs => match cs.toList with
    | [.int .i64 a, .int .i64 b] => some (grpD a b, [])
    | _ => none
  | _ => none
theorem grpElem_mk (n m : Int) : grpElem (grpv n m) = some (grpD n m, []) := rfl
theorem grpElem_shape {v : Value} {y : DataW Unit × List MemPlace} (h : grpElem v = some y) : ∃ n m, v = grpv n m ∧ y.1 = grpD n m := by
  unfold grpElem at h
  split at h
  · rename_i cs
    split at h
    · rename_i a b e
      injection h with h
      refine ⟨a, b, ?_, by rw [← h]⟩
      have : cs = #[.int .i64 a, .int .i64 b] := Array.toList_inj.1 e
      rw [this]
    · cases h
  · cases h
theorem grpD_inj {a b c d : Int} (h : grpD a b = grpD c d) : a = c ∧ b = d := by
  unfold grpD at h
  injection h with h
  injection h with h1 h2
  injection h2 with h2 _
  injection h1 with h1
  injection h2 with h2
  injection h1 with _ h1
  injection h2 with _ h2
  exact ⟨h1, h2⟩
theorem grpElem_inv {v : Value} {n m : Int} {ps : List MemPlace} (h : grpElem v = some (grpD n m, ps)) : v = grpv n m := by
  obtain ⟨a, b, rfl, e⟩ := grpElem_shape h
  obtain ⟨rfl, rfl⟩ := grpD_inj e
  rfl
theorem zero_grp (w : World) : (zeroValue 122).run Tryz.prog w = .ok (grpv 0 0) w := by kernel_rfl

/-! what the map says -/
abbrev colsG (s : St) (A : List It) : List Int := A.map (fun x => colD x.1 s.col)
def GMap (s : St) (A : List It) (D : DataW Unit) : Prop :=
  Maps.IsMap D ∧ ∀ k : Int, Maps.has D (kI k) = decide (k ∈ colsG s A) ∧ (k ∈ colsG s A → ∀ z, D.atKey (kI k) z = grpD (grpN s A k) (grpS s A k))
theorem GMap.nil (s : St) : GMap s [] (.map []) := ⟨Maps.isMap_empty, fun k => ⟨rfl, fun h => by simp at h⟩⟩
theorem totF_none {f : List Int → Int} : ∀ {l : List It}, (∀ x ∈ l, f x.1 = 0) → totF f l = 0
  | [], _ => rfl
  | x :: l, h => by rw [totF, h x (by simp), totF_none fun y hy => h y (by simp [hy])]; simp
theorem grp_none {s : St} {A : List It} {k : Int} (h : k ∉ colsG s A) : grpN s A k = 0 ∧ grpS s A k = 0 := by
  have hne : ∀ x ∈ A, colD x.1 s.col ≠ k := fun x hx e => h (List.mem_map.2 ⟨x, hx, e⟩)
  unfold grpN grpS
  rw [totF_none fun x hx => if_neg (hne x hx), totF_none fun x hx => if_neg (hne x hx)]
  exact ⟨rfl, by split <;> rfl⟩
theorem GMap.at {s : St} {A : List It} {D : DataW Unit} (h : GMap s A D) (k : Int) : D.atKey (kI k) (grpD 0 0) = grpD (grpN s A k) (grpS s A k) := by
  obtain ⟨h1, h2⟩ := h.2 k
  by_cases q : k ∈ colsG s A
  · exact h2 q _
  · obtain ⟨e1, e2⟩ := grp_none q
    rw [e1, e2]
    exact Maps.atKey_of_not_has (by rw [h1]; simpa using q) _
theorem grpN_snoc (s : St) (A : List It) (x : It) (k : Int) : grpN s (A ++ [x]) k = if colD x.1 s.col = k then wrp (grpN s A k + x.2) else grpN s A k := by
  unfold grpN
  rw [totF_app, totF, totF, Int.add_zero]
  split
  · rw [wrp_add]; simp
  · simp
theorem grpS_snoc (s : St) (A : List It) (x : It) (k : Int) (h9 : s.kind = 9) : grpS s (A ++ [x]) k = if colD x.1 s.col = k then wrp (grpS s A k + wrp (x.2 * colD x.1 s.val)) else grpS s A k := by
  unfold grpS
  rw [if_pos h9, if_pos h9, totF_app, totF, totF, Int.add_zero]
  split
  · rw [wrp_add, wrp_add', Int.mul_comm]
  · simp
theorem grpS_zero (s : St) (A : List It) (k : Int) (h9 : s.kind ≠ 9) : grpS s A k = 0 := by unfold grpS; rw [if_neg h9]
theorem GMap.put {s : St} {A : List It} {D : DataW Unit} (h : GMap s A D) (x : It) : GMap s (A ++ [x]) (D.put (kI (colD x.1 s.col)) (grpD (grpN s (A ++ [x]) (colD x.1 s.col)) (grpS s (A ++ [x]) (colD x.1 s.col)))) := by
  refine ⟨h.1.put _ _, fun k => ?_⟩
  have hm : k ∈ colsG s (A ++ [x]) ↔ k ∈ colsG s A ∨ k = colD x.1 s.col := by
    unfold colsG; rw [List.map_append, List.mem_append]; simp
  by_cases e : k = colD x.1 s.col
  · subst e
    refine ⟨?_, fun _ z => Maps.atKey_put_same h.1 (isKeyI _) _ _⟩
    rw [Maps.has_put_same h.1 (isKeyI _)]
    exact (decide_eq_true (hm.2 (.inr rfl))).symm
  · have hne := kI_ne e
    obtain ⟨h1, h2⟩ := h.2 k
    refine ⟨?_, fun hk z => ?_⟩
    · rw [Maps.has_put_other hne, h1]
      exact decide_eq_decide.2 ⟨fun q => hm.2 (.inl q), fun q => (hm.1 q).resolve_right e⟩
    · rw [Maps.atKey_put_other hne, h2 ((hm.1 hk).resolve_right e) z, grpN_snoc, if_neg (fun q => e q.symm)]
      by_cases h9 : s.kind = 9
      · rw [grpS_snoc s A x k h9, if_neg (fun q => e q.symm)]
      · rw [grpS_zero s A k h9, grpS_zero s _ k h9]
theorem wpList_look_grp {ops : Array Oper} {rest : List Oper} {o : Oper} {a : Act} {Q : Exit → Act → World → Prop} (w : World) (hg : o.guard = none) (m y : Operand) (hop : o.op = Op.lookup 95 m y false) (b n : Nat) (D : DataW Unit)
    (hm : a.eval m = .map (some b)) (hown : w.ownsMap Tryz.prog 3 grpElem b n D) (key : Value) (kl : Lit) (hx : a.eval y = key) (hkey : keyOf Tryz.prog 3 key = some kl) (g1 g2 : Int) (hat : D.atKey kl (grpD 0 0) = grpD g1 g2)
    (hK : wpList Tryz.prog ops Q rest (a.put o.dst (grpv g1 g2)) w) : wpList Tryz.prog ops Q (o :: rest) a w := by
  refine wpList_plain hg fun K' hK' => ?_
  obtain ⟨v, ps, hrun, hv⟩ := hown.lookup int_law Tryz.underlying95 (zero_grp w) (grpElem_mk 0 0) hkey
  rw [hat] at hv
  obtain rfl := grpElem_inv hv
  unfold Oper.wp
  simp [execOp, hop, hm, hx, hrun, Result.andThen]
  exact hK' _ _ hK
end Go.Proofs.YtldlmkfigjicgaaGreatDoor
/- plain.Groups: the walk; plain.Told. -/
namespace Go.Proofs.YtldlmkfigjicgaaGreatDoor
set_option linter.unusedVariables false
set_option linter.unusedSimpArgs false
open Go.ChangeShapes Go.WideShapes Go.ChangeAt Go.RowKit

/-- What a step that groups asks of its list. -/
def GrpOk (s : St) (A : List It) : Prop :=
  0 ≤ s.col ∧ (s.kind = 9 → 0 ≤ s.val) ∧ ∀ y ∈ A, s.col < (y.1.length : Int) ∧ (s.kind = 9 → s.val < (y.1.length : Int)) ∧ (∀ z ∈ y.1, -1073741824 ≤ z ∧ z ≤ 1073741824) ∧ -2097152 ≤ y.2 ∧ y.2 ≤ 2097152
def GroupsPost (s : St) (A : List It) (w : World) (e : Ending) (w' : World) : Prop :=
  ∃ (b n : Nat) (D : DataW Unit), e = .returned (.map (some b)) ∧ w'.ownsMap Tryz.prog 3 grpElem b n D ∧ GMap s A D ∧ n ≤ A.length ∧ w.heap.size ≤ b ∧ Below w.heap.size w w'
theorem colD_get {r : List Int} {j : Nat} (h : j < r.length) : colD r (j : Int) = r[j] := by
  unfold colD; rw [Int.toNat_natCast, List.getD_eq_getElem?_getD, List.getElem?_eq_getElem h]; rfl

set_option maxHeartbeats 1000000 in
set_option maxRecDepth 100000 in
theorem groups_any (x : SR) (M : List IR) (A : Option Addr) (c : Nat) (w : World) (hr : RowI w w.heap.size A M) (hl : M.length ≤ 800) (hok : GrpOk x.st (its M)) :
    Calls Tryz.prog 86 #[.agg x.cells.toArray, .slice A M.length c] w (GroupsPost x.st (its M) w) := by
  obtain ⟨⟨sk, sa, sb, sc, so, sv, sl⟩, sA, sK⟩ := x
  obtain ⟨hc0, hv0, hM⟩ := hok
  simp only at hc0 hv0 hM
  obtain ⟨j, rfl⟩ : ∃ j : Nat, sc = (j : Int) := ⟨sc.toNat, by omega⟩
  have HR := hid hr
  have HM := hid (fun y (hy : y ∈ M) => hM y.it (List.mem_map.2 ⟨y, hy, rfl⟩))
  simp only [SR.cells]
  obtain ⟨s, hs⟩ : ∃ s : St, s = ⟨sk, sa, sb, (j : Int), so, sv, sl⟩ := ⟨_, rfl⟩
  have hs9 : s.kind = sk := by rw [hs]
  have hsc : s.col = (j : Int) := by rw [hs]
  have hsv : s.val = sv := by rw [hs]
  rw [← hs]
  have HSN := hid (fun (A : List It) (x : It) (k : Int) => show grpN s (A ++ [x]) k = if colD x.1 (j : Int) = k then wrp (grpN s A k + x.2) else grpN s A k by rw [← hsc]; exact grpN_snoc s A x k)
  have HSS := hid (fun (h9 : sk = 9) (A : List It) (x : It) (k : Int) => show grpS s (A ++ [x]) k = if colD x.1 (j : Int) = k then wrp (grpS s A k + wrp (x.2 * colD x.1 sv)) else grpS s A k by rw [← hsc, ← hsv]; exact grpS_snoc s A x k (by rw [hs9]; exact h9))
  have HS0 := hid (fun (h9 : sk ≠ 9) (A : List It) (k : Int) => grpS_zero s A k (by rw [hs9]; exact h9))
  have HPT := hid (fun (A : List It) (D : DataW Unit) (h : GMap s A D) (x : It) => show GMap s (A ++ [x]) (D.put (kI (colD x.1 (j : Int))) (grpD (grpN s (A ++ [x]) (colD x.1 (j : Int))) (grpS s (A ++ [x]) (colD x.1 (j : Int))))) by rw [← hsc]; exact h.put x)
  have HV0 := hid hv0
  clear hr hM hs hs9 hsc hsv hv0
  obtain ⟨W1, hW1⟩ : ∃ W1 : World, W1 = w.alloc (.cells #[.int .i64 sk, .int .i64 sa, .int .i64 sb, .int .i64 (j : Int), .int .i64 so, .int .i64 sv, .slice sA sl.length sK] 89) := ⟨_, rfl⟩
  have HX := hid (show Blk W1 w.heap.size #[.int .i64 sk, .int .i64 sa, .int .i64 sb, .int .i64 (j : Int), .int .i64 so, .int .i64 sv, .slice sA sl.length sK] 89 by rw [hW1]; exact Blk.new _ _ _)
  have HB1 := hid (show Below w.heap.size w W1 by rw [hW1]; (repeat' (first | (with_reducible exact Below.refl _ _) | (with_reducible assumption) | (with_reducible refine below_drewN ?_ _) | (with_reducible refine Below.drew ?_) | (with_reducible refine Below.alloc ?_ ?_ _) | (with_reducible refine Below.setCell ?_ ?_ _) | (refine Below.trans ?_ (Below.mono (by assumption) ?_)) | go_size)))
  have hs1 := HB1.out.size
  have hx1 := HX.out.lt
  have hmm := @run_makeMap Tryz.prog
  have HOM := hid (World.ownsMap_made W1 Tryz.prog 3 grpElem)
  have HBM := hid ((Below.refl W1.heap.size W1).alloc (Nat.le_refl _) (.map #[] 0))
  go_enter Tryz.func86, Tryz.ntmps86
  go_upto_region 1 with fail
  rw [← hW1]
  clear hW1
  go_wp2_with fail
  -- STOP-a
  go_loopw [12] (fun s12 wr => ∃ (i : Nat) (D : DataW Unit), i ≤ M.length ∧ s12 = .int .i64 i ∧ Hid (wr.ownsMap Tryz.prog 3 grpElem W1.heap.size i D) ∧ Hid (GMap s (its (M.take i)) D) ∧ Hid (Below W1.heap.size W1 wr)) (fun s12 _ => M.length - (intOf s12).toNat)
  case atStart => exact ⟨0, .map [], by omega, rfl, HOM.out, hid (GMap.nil s), HBM⟩
  case round =>
    clear HOM HBM
    obtain ⟨i, D, hi, rfl, HOWN, HGM, HB⟩ := hrel
    have hsw := HB.out.size
    have HBW := hid (Below.step' HB1.out HB.out)
    have hmk := HOWN.out.lt
    by_cases hlt : i < M.length
    · obtain ⟨b, off, rfl, hb, e0, e1⟩ := (HR.out.1.step HBW.out).it hlt
      have HXR := hid (((HR.out.2.step HBW.out) M[i] (List.getElem_mem hlt)).1)
      obtain ⟨q1, q2, q3, q4⟩ := HM.out M[i] (List.getElem_mem hlt)
      have HTK := hid (show its (M.take (i + 1)) = its (M.take i) ++ [M[i].it] by rw [List.take_succ_eq_append_getElem hlt, its, List.map_append]; rfl)
      simp only [IR.it] at q1 q2 q3 q4 HTK
      generalize M[i] = x at *
      obtain ⟨xr, xA, xk, xn⟩ := x
      simp only at e0 e1 HXR q1 q2 q3 q4 HTK
      have hj : j < xr.length := by omega
      obtain ⟨b2, o2, rfl, hb2, hv2⟩ := HXR.out.int' hj
      have hcd := colD_get hj
      have hkin := q3 xr[j] (List.getElem_mem hj)
      obtain ⟨L, hL⟩ : ∃ L, L = its (M.take i) := ⟨_, rfl⟩
      rw [← hL] at HGM HTK
      clear hL
      have HAT := hid (HGM.out.at xr[j])
      have HN1 := hid (show grpN s (L ++ [(xr, xn)]) xr[j] = wrp (grpN s L xr[j] + xn) by rw [HSN.out, if_pos hcd])
      have HS1 := hid (fun h9 : sk = 9 => show grpS s (L ++ [(xr, xn)]) xr[j] = wrp (grpS s L xr[j] + wrp (xn * colD xr sv)) by rw [HSS.out h9, if_pos hcd])
      have HS2 := hid (fun h9 : sk ≠ 9 => show grpS s (L ++ [(xr, xn)]) xr[j] = grpS s L xr[j] by rw [HS0.out h9, HS0.out h9])
      have HPU := hid (HPT.out _ _ HGM.out (xr, xn))
      simp only [hcd] at HPU
      have HKI := hid (keyOf_I (k := xr[j]) (by omega))
      have HVV := hid (fun h9 : sk = 9 => HV0.out h9)
      have HVL := hid q2
      generalize xr[j] = key at *
      obtain ⟨g1, hg1⟩ : ∃ q, q = grpN s L key := ⟨_, rfl⟩
      obtain ⟨g2, hg2⟩ : ∃ q, q = grpS s L key := ⟨_, rfl⟩
      obtain ⟨n1, hn1⟩ : ∃ q, q = grpN s (L ++ [(xr, xn)]) key := ⟨_, rfl⟩
      obtain ⟨n2, hn2⟩ : ∃ q, q = grpS s (L ++ [(xr, xn)]) key := ⟨_, rfl⟩
      rw [← hg1] at HAT HN1
      rw [← hg2] at HAT HS1 HS2
      rw [← hn1] at HN1 HPU
      rw [← hn2] at HS1 HS2 HPU
      have hwn : IntKind.i64.wrap (g1 + xn) = n1 := HN1.out.symm
      clear hg1 hg2 hn1 hn2 q1 q2 hcd
      have hneb : (b = wr.heap.size) = False := by simp; omega
      have hneb2 : (b2 = wr.heap.size) = False := by simp; omega
      have hneb3 : (b2 = wr.heap.size + 1) = False := by simp; omega
      obtain ⟨wo, rfl⟩ : ∃ wx : World, wx = wr := ⟨_, rfl⟩
      have HXO := hid (HX.out.step HB.out)
      have hjl : (j : Int) < (xr.length : Int) := by omega
      have HX4 := hid ((Blk.new wo #[.slice (some ⟨b2, o2, none⟩) xr.length xk, .int .i64 xn] 67).alloc (.cells #[.int .i64 n1, .int .i64 g2] 122))
      have HG4 := hid (Blk.new' (wo.alloc (.cells #[.slice (some ⟨b2, o2, none⟩) xr.length xk, .int .i64 xn] 67)) (b := wo.heap.size + 1) #[.int .i64 n1, .int .i64 g2] 122 (by simp))
      have HB4 := hid (alloc_below (alloc_below (Below.refl wo.heap.size wo) (.cells #[.slice (some ⟨b2, o2, none⟩) xr.length xk, .int .i64 xn] 67)) (.cells #[.int .i64 n1, .int .i64 g2] 122))
      have HOW4 := hid ((HOWN.out.alloc (.cells #[.slice (some ⟨b2, o2, none⟩) xr.length xk, .int .i64 xn] 67)).alloc (.cells #[.int .i64 n1, .int .i64 g2] 122))
      obtain ⟨W4, hW4⟩ : ∃ W4 : World, W4 = (wo.alloc (.cells #[.slice (some ⟨b2, o2, none⟩) xr.length xk, .int .i64 xn] 67)).alloc (.cells #[.int .i64 n1, .int .i64 g2] 122) := ⟨_, rfl⟩
      rw [← hW4] at HX4 HG4 HB4 HOW4
      have HW4 := hid hW4
      clear hW4
      have hv4 := ((bcell HB4.out).1 b2 _ hb2).trans hv2
      have hb4 : b2 < W4.heap.size := Nat.lt_of_lt_of_le hb2 HB4.out.size
      have HX4S := hid (HXO.out.step HB4.out)
      by_cases h9 : sk = 9
      · obtain ⟨jv, hjv⟩ : ∃ jv : Nat, sv = (jv : Int) := ⟨sv.toNat, by have := HVV.out h9; omega⟩
        have hjvl : jv < xr.length := by have := HVL.out h9; omega
        subst hjv
        obtain ⟨b2', o2', e', -, hvv⟩ := HXR.out.int' hjvl
        injection e' with e'
        injection e' with e1' e2'
        subst e1' e2'
        have hcd := colD_get hjvl
        replace HS1 := hid (HS1.out h9)
        rw [hcd] at HS1
        generalize xr[jv] = u2 at *
        have hvv4 := ((bcell HB4.out).1 b2 _ hb2).trans hvv
        have hjvl2 : (jv : Int) < (xr.length : Int) := by omega
        obtain ⟨pp, hpp⟩ : ∃ q, q = wrp (xn * u2) := ⟨_, rfl⟩
        have hwp : IntKind.i64.wrap (xn * u2) = pp := hpp.symm
        rw [← hpp] at HS1
        have hw2 : IntKind.i64.wrap (g2 + pp) = n2 := HS1.out.symm
        have t9 : (sk == 9) = true := by simp [h9]
        clear hpp hcd h9 HS2 hvv
        obtain ⟨cHXO, fHXO, sHXO, nHXO⟩ := HXO.out.all
        try simp only [cbox] at cHXO
        go_upto_region 8 with (at_lookup; refine wpList_look_grp _ rfl _ _ rfl W1.heap.size i D rfl (HOWN.out.alloc _) _ (kI key) rfl HKI.out g1 g2 HAT.out ?_)
        rw [← HW4.out]
        clear cHXO fHXO sHXO nHXO
        clear e0 e1 hneb hneb2 hneb3
        obtain ⟨cHX4, fHX4, sHX4, nHX4⟩ := HX4.out.all
        try simp only [cbox] at cHX4
        obtain ⟨cHG4, fHG4, sHG4, nHG4⟩ := HG4.out.all
        try simp only [cbox] at cHG4
        obtain ⟨cHX4S, fHX4S, sHX4S, nHX4S⟩ := HX4S.out.all
        try simp only [cbox] at cHX4S
        refine region_tail 13 (by kernel_rfl) (by kernel_rfl) ?_
        simp only [List.take_succ_cons, List.take_zero, List.drop_succ_cons, List.drop_zero]
        repeat still_step
        refine wpStill_nil ?_
        go_upto_region 9 with fail
        clear cHX4 fHX4 sHX4 nHX4
        clear cHG4 fHG4 sHG4 nHG4
        clear cHX4S fHX4S sHX4S nHX4S
        have HG5 := hid ((HG4.out.set 1 (.int .i64 n2)).drew)
        have HX5 := hid ((HX4.out.other (a := ⟨wo.heap.size + 1, 1, none⟩) (by simp) (.int .i64 n2)).drew)
        have HX5S := hid ((HX4S.out.other (a := ⟨wo.heap.size + 1, 1, none⟩) (by simp; have := HX.out.lt; omega) (.int .i64 n2)).drew)
        have HOW5 := hid ((HOW4.out.setCell (a := ⟨wo.heap.size + 1, 1, none⟩) (by simp; omega) (.int .i64 n2)).drew)
        have HB5 := hid ((HB4.out.setCell (p := ⟨wo.heap.size + 1, 1, none⟩) (by simp) (.int .i64 n2)).drew)
        obtain ⟨W5, hW5⟩ : ∃ W5 : World, W5 = (W4.setCell ⟨wo.heap.size + 1, 1, none⟩ (.int .i64 n2)).drew := ⟨_, rfl⟩
        rw [← hW5] at HG5 HX5 HX5S HOW5 HB5 ⊢
        clear hW5
        -- STOP-c
        have hv5 := ((bcell HB5.out).1 b2 _ hb2).trans hv2
        have hb5 : b2 < W5.heap.size := Nat.lt_of_lt_of_le hb2 HB5.out.size
        have hmk5 := HOW5.out.lt
        clear HOW4 HG4 HX4 HX4S hv4 hb4
        obtain ⟨cHX5, fHX5, sHX5, nHX5⟩ := HX5.out.all
        try simp only [cbox] at cHX5
        obtain ⟨cHG5, fHG5, sHG5, nHG5⟩ := HG5.out.all
        try simp only [cbox] at cHG5
        obtain ⟨cHX5S, fHX5S, sHX5S, nHX5S⟩ := HX5S.out.all
        try simp only [cbox] at cHX5S
        refine region_tail 8 (by kernel_rfl) (by kernel_rfl) ?_
        simp only [List.take_succ_cons, List.take_zero, List.drop_succ_cons, List.drop_zero]
        repeat still_step
        refine wpStill_nil ?_
        go_wp2_with (at_mapUpdate; refine wpList_mapUpdate_own _ rfl _ _ _ 95 rfl 3 122 int_law Tryz.underlying95 grpElem W1.heap.size i D rfl HOW5.out.drew (by simp only [maxLen]; omega) _ _ (kI key) rfl rfl HKI.out (grpD n1 n2) [] (grpElem_mk n1 n2) ?_; intro w6 hown6 hg6)
        have HOW6 := hid hown6
        have HG6 := hid hg6
        clear hown6 hg6
        go_roundw
        case rel =>
          refine ⟨i + 1, D.put (kI key) (grpD n1 n2), by omega, by go_num, HOW6, hid (by rw [HTK.out]; exact HPU.out), hid ((HB.out.trans ((HB5.out.drew).mono hsw)).grown HG6.out (by have := HB5.out.size; simp; omega) (fun g e => by injection e with e; omega))⟩
        case measure => simp [intOf]; omega
      · have t9 : (sk == 9) = false := by simp [h9]
        have hn2 := (HS2.out h9).symm
        subst hn2
        clear h9 HS1 HS2
        obtain ⟨cHXO, fHXO, sHXO, nHXO⟩ := HXO.out.all
        try simp only [cbox] at cHXO
        go_upto_region 9 with (at_lookup; refine wpList_look_grp _ rfl _ _ rfl W1.heap.size i D rfl (HOWN.out.alloc _) _ (kI key) rfl HKI.out g1 g2 HAT.out ?_)
        rw [← HW4.out]
        clear cHXO fHXO sHXO nHXO
        clear e0 e1 hneb hneb2 hneb3
        have HG5 := HG4
        have HX5 := HX4
        have HX5S := HX4S
        have HOW5 := HOW4
        have HB5 := HB4
        obtain ⟨W5, hW5⟩ : ∃ W5 : World, W5 = W4 := ⟨_, rfl⟩
        rw [← hW5] at HG5 HX5 HX5S HOW5 HB5 ⊢
        clear hW5
        -- STOP-d
        have hv5 := ((bcell HB5.out).1 b2 _ hb2).trans hv2
        have hb5 : b2 < W5.heap.size := Nat.lt_of_lt_of_le hb2 HB5.out.size
        have hmk5 := HOW5.out.lt
        clear HOW4 HG4 HX4 HX4S hv4 hb4
        obtain ⟨cHX5, fHX5, sHX5, nHX5⟩ := HX5.out.all
        try simp only [cbox] at cHX5
        obtain ⟨cHG5, fHG5, sHG5, nHG5⟩ := HG5.out.all
        try simp only [cbox] at cHG5
        obtain ⟨cHX5S, fHX5S, sHX5S, nHX5S⟩ := HX5S.out.all
        try simp only [cbox] at cHX5S
        refine region_tail 8 (by kernel_rfl) (by kernel_rfl) ?_
        simp only [List.take_succ_cons, List.take_zero, List.drop_succ_cons, List.drop_zero]
        repeat still_step
        refine wpStill_nil ?_
        go_wp2_with (at_mapUpdate; refine wpList_mapUpdate_own _ rfl _ _ _ 95 rfl 3 122 int_law Tryz.underlying95 grpElem W1.heap.size i D rfl HOW5.out.drew (by simp only [maxLen]; omega) _ _ (kI key) rfl rfl HKI.out (grpD n1 g2) [] (grpElem_mk n1 g2) ?_; intro w6 hown6 hg6)
        have HOW6 := hid hown6
        have HG6 := hid hg6
        clear hown6 hg6
        go_roundw
        case rel =>
          refine ⟨i + 1, D.put (kI key) (grpD n1 g2), by omega, by go_num, HOW6, hid (by rw [HTK.out]; exact HPU.out), hid ((HB.out.trans ((HB5.out.drew).mono hsw)).grown HG6.out (by have := HB5.out.size; simp; omega) (fun g e => by injection e with e; omega))⟩
        case measure => simp [intOf]; omega
    · have hik : i = M.length := by omega
      subst hik
      rw [List.take_length] at HGM
      go_wp2_with fail
      go_ret
      exact ⟨W1.heap.size, M.length, D, rfl, HOWN.out, HGM.out, by rw [its_len]; exact Nat.le_refl _, hs1, HBW.out⟩
end Go.Proofs.YtldlmkfigjicgaaGreatDoor
/- plain.Told. -/
namespace Go.Proofs.YtldlmkfigjicgaaGreatDoor
set_option linter.unusedVariables false
set_option linter.unusedSimpArgs false
open Go.ChangeShapes Go.WideShapes Go.ChangeAt Go.RowKit

theorem told_row (key v : Int) (w W : World) (hW : Below w.heap.size w W) :
    ItsPost [([key, v], 1)] w (.returned (.slice (some ⟨W.heap.size + 1, 0, none⟩) 1 1)) ((W.alloc (.cells #[.int .i64 key, .int .i64 v] 3)).alloc (.cells #[.slice (some ⟨W.heap.size, 0, none⟩) 2 2, .int .i64 1] 67)) := by
  have hs := hW.size
  refine ⟨some ⟨W.heap.size + 1, 0, none⟩, 1, [⟨[key, v], some ⟨W.heap.size, 0, none⟩, 2, 1⟩], rfl, rfl, ⟨rfl, .inr ⟨W.heap.size + 1, 1, #[.slice (some ⟨W.heap.size, 0, none⟩) 2 2, .int .i64 1], rfl, by omega, ?_, Nat.le_refl _, by decide, rfl, rfl⟩⟩, ?_, alloc_below (alloc_below hW _) _⟩
  · have := heap_alloc_new (W.alloc (.cells #[.int .i64 key, .int .i64 v] 3)) (.cells #[.slice (some ⟨W.heap.size, 0, none⟩) 2 2, .int .i64 1] 67)
    simpa using this
  · intro x hx
    rw [List.mem_singleton.1 hx]
    refine ⟨RowOwn.of_own (l := [key, v]) (B := 0) (n := 2) (World.ownsRow.alloc (show (W.alloc (.cells #[.int .i64 key, .int .i64 v] 3)).ownsRow 0 3 1 (.slice (some ⟨W.heap.size, 0, none⟩) 2 2) 2 (icells' [key, v]) from ⟨rfl, .inr ⟨W.heap.size, 2, #[.int .i64 key, .int .i64 v], rfl, Nat.zero_le _, heap_alloc_new _ _, Nat.le_refl _, by decide, rfl, rfl⟩⟩) _) rfl, newAt_some hs, fun b off q e => ?_, by simp⟩
    simp only [Option.some.injEq, Addr.mk.injEq] at e
    obtain ⟨rfl, -, -⟩ := e
    refine ⟨fun e => ?_, by simp; omega⟩
    simp [Value.ownBlock] at e

set_option maxHeartbeats 400000 in
set_option maxRecDepth 100000 in
theorem told_any (x : SR) (key n m : Int) (w : World) :
    Calls Tryz.prog 87 #[.agg x.cells.toArray, .int .i64 key, grpv n m] w (ItsPost (toldL x.st key n m) w) := by
  obtain ⟨⟨sk, sa, sb, sc, so, sv, sl⟩, sA, sK⟩ := x
  simp only [SR.cells, grpv]
  obtain ⟨X, hX⟩ : ∃ X, X = toldL ⟨sk, sa, sb, sc, so, sv, sl⟩ key n m := ⟨_, rfl⟩
  rw [← hX]
  have HX := hid hX
  clear hX
  have HR := hid (fun v W hW => told_row key v w W hW)
  have HB := hid (alloc_below (alloc_below (Below.refl w.heap.size w) (.cells #[.int .i64 sk, .int .i64 sa, .int .i64 sb, .int .i64 sc, .int .i64 so, .int .i64 sv, .slice sA sl.length sK] 89)) (.cells #[.int .i64 n, .int .i64 m] 122))
  by_cases h0 : n = 0
  · have t0 : (n == 0) = true := by simp [h0]
    have HX0 := hid (show X = [] by rw [HX.out]; unfold toldL; rw [if_pos h0])
    clear h0
    go_enter Tryz.func87, Tryz.ntmps87
    go_wp2
    go_ret
    exact ⟨none, 0, [], rfl, HX0.out.symm, World.ownsRow_nil _ _ _ _, RowsNew.nil _ _ _, HB.out⟩
  · have t0 : (n == 0) = false := by simp [h0]
    by_cases h9 : sk = 9
    · have t9 : (sk == 9) = true := by simp [h9]
      have HX0 := hid (show X = [([key, m], 1)] by rw [HX.out]; unfold toldL; rw [if_neg h0, if_pos h9])
      clear h0 h9
      go_enter Tryz.func87, Tryz.ntmps87
      go_wp2
      go_ret
      rw [HX0.out]
      have := HR.out m _ HB.out
      simpa using this
    · have t9 : (sk == 9) = false := by simp [h9]
      have HX0 := hid (show X = [([key, n], 1)] by rw [HX.out]; unfold toldL; rw [if_neg h0, if_neg h9])
      clear h0 h9
      go_enter Tryz.func87, Tryz.ntmps87
      go_wp2
      go_ret
      rw [HX0.out]
      have := HR.out n _ HB.out
      simpa using this
end Go.Proofs.YtldlmkfigjicgaaGreatDoor
/- inc.distinct: what is there more once. -/
namespace Go.Proofs.YtldlmkfigjicgaaGreatDoor
set_option linter.unusedVariables false
set_option linter.unusedSimpArgs false
open Go.ChangeShapes Go.WideShapes Go.ChangeAt Go.RowKit

set_option maxRecDepth 100000 in
theorem dis11_any (x : IR) (r : List Int) (RA : Option Addr) (rc : Nat) (w : World) (hx : Row w w.heap.size x.A (icells' x.row)) (hxl : x.row.length ≤ 9223372036854775807) (hr : Row w w.heap.size RA (icells' r)) (hrl : r.length ≤ 9223372036854775807) :
    Calls Tryz.prog 135 #[.agg x.cells.toArray, .slice RA r.length rc] w fun e w' => e = .returned (.int .i64 (cmpL x.row r)) ∧ Below w.heap.size w w' := by
  obtain ⟨xr, xA, xk, xn⟩ := x
  have HC := hid (fun w1 (hb : Below w.heap.size w w1) => orderL_any xr r xA RA xk rc w1 (hx.step hb) (hr.step hb) hxl hrl)
  clear hx hr
  go_enter Tryz.func135, Tryz.ntmps135
  go_wp2_with (go_at_call 16; refine (HC.out _ (alloc_below (Below.refl _ _) _)).mono ?_; rintro e w' ⟨rfl, rfl⟩)
  go_ret
  exact ⟨rfl, alloc_below (Below.refl _ _) _⟩
theorem enters_dis11 : ∀ args w, (callFunc 135 args).run Tryz.prog w = .ok (.enter 135 args) w := fun args w => by kernel_rfl
/-- Where a row is in a set. -/
def BsPost (M : List IR) (r : List Int) (w : World) (e : Ending) (w' : World) : Prop :=
  ∃ (i : Nat) (f : Bool), e = .returned (.tuple #[.int .i64 i, .bool f]) ∧ (f = true → ∃ h : i < M.length, M[i].row = r) ∧ (f = false → ∀ x ∈ M, x.row ≠ r) ∧ Below w.heap.size w w'
theorem strict_at : ∀ {L : List It}, Strict L → ∀ i j (hi : i < L.length) (hj : j < L.length), i < j → cmpL L[i].1 L[j].1 < 0 := fun h i j hi hj hij => List.pairwise_iff_getElem.1 (strict_pair h) i j hi hj hij
set_option maxHeartbeats 1000000 in
set_option maxRecDepth 100000 in
theorem bs_any (M : List IR) (r : List Int) (A RA : Option Addr) (c rc : Nat) (w : World) (hr : RowI w w.heap.size A M) (hl : M.length ≤ 1048576) (hx : Row w w.heap.size RA (icells' r)) (hxl : r.length ≤ 9223372036854775807) (hs : Strict (its M)) :
    Calls Tryz.prog 134 #[.slice A M.length c, .slice RA r.length rc, .func (.func 135) #[] #[]] w (BsPost M r w) := by
  have HR := hid hr
  have HX := hid hx
  have HST := hid (show ∀ i j (hi : i < M.length) (hj : j < M.length), i < j → cmpL M[i].row M[j].row < 0 from fun i j hi hj h => by
    have := strict_at hs i j (by rw [its_len]; exact hi) (by rw [its_len]; exact hj) h
    simpa [its] using this)
  have eg := enters_dis11
  clear hr hx hs
  go_enter Tryz.func134, Tryz.ntmps134
  go_wp2_with fail
  -- STOP-a
  go_loopw [9, 10] (fun s9 s10 wr => ∃ i j : Nat, i ≤ j ∧ j ≤ M.length ∧ s9 = .int .i64 i ∧ s10 = .int .i64 j ∧ Hid (∀ k (h : k < M.length), k < i → cmpL M[k].row r < 0) ∧ Hid (∀ k (h : k < M.length), j ≤ k → 0 ≤ cmpL M[k].row r) ∧ Hid (Below w.heap.size w wr)) (fun s9 s10 _ => (intOf s10).toNat - (intOf s9).toNat)
  case atStart => exact ⟨0, M.length, by omega, by omega, rfl, rfl, hid (fun k _ h => by omega), hid (fun k h h2 => by omega), hid (Below.refl _ _)⟩
  case round =>
    obtain ⟨i, j, hij, hj, rfl, rfl, HL, HG, HB⟩ := hrel
    by_cases hlt : i < j
    · obtain ⟨h, hh⟩ : ∃ h : Nat, h = (i + j) / 2 := ⟨_, rfl⟩
      have hhi : ((i : Int) + (j : Int)) / 2 = (h : Int) := by omega
      have h1 : i ≤ h := by omega
      have h2 : h < j := by omega
      have HHI := hid hhi
      have hlm : h < M.length := by omega
      clear hh
      obtain ⟨b, off, rfl, hb, h0, h3⟩ := (HR.out.1.step HB.out).it hlm
      have HRW := hid (((HR.out.2.step HB.out) M[h] (List.getElem_mem hlm)))
      have HSL := hid (fun k (hk : k < M.length) (q : k < h) => HST.out k h hk hlm q)
      have HSG := hid (fun k (hk : k < M.length) (q : h < k) => HST.out h k hlm hk q)
      have HRF := hid (show ∀ k (hk : k < M.length), k = h → M[k].row = M[h].row from fun k hk e => by subst e; rfl)
      generalize M[h] = d at *
      obtain ⟨xr, xA, xk, xn⟩ := d
      simp only at h0 h3 HRW HSL HSG HRF
      have HC := hid (dis11_any ⟨xr, xA, xk, xn⟩ r RA rc wr HRW.out.1 HRW.out.2 (HX.out.step HB.out) hxl)
      simp only [IR.cells] at HC
      obtain ⟨cv, hcv⟩ : ∃ q, q = cmpL xr r := ⟨_, rfl⟩
      rw [← hcv] at HC
      have HCV := hid hcv
      clear hcv
      by_cases hz : cv < 0
      · have tz : (cv < 0) = True := eq_true hz
        go_wp2_with (refine (HC.out).mono ?_; rintro e w1 ⟨rfl, hb1⟩)
        go_roundw
        case rel =>
          refine ⟨h + 1, j, by omega, hj, by go_num, rfl, hid (fun k hk q => ?_), HG, hid (Below.step' HB.out hb1)⟩
          rcases Nat.lt_or_ge k h with e | e
          · exact cmpL_lt_le (HSL.out k hk e) (by rw [← HCV.out]; omega)
          · rw [HRF.out k hk (by omega), ← HCV.out]; exact hz
        case measure => simp [intOf]; omega
      · have tz : (cv < 0) = False := eq_false hz
        go_wp2_with (refine (HC.out).mono ?_; rintro e w1 ⟨rfl, hb1⟩)
        go_roundw
        case rel =>
          refine ⟨i, h, by omega, by omega, rfl, rfl, HL, hid (fun k hk q => ?_), hid (Below.step' HB.out hb1)⟩
          rcases Nat.lt_or_ge h k with e | e
          · have h4 := HSG.out k hk e
            have h5 := cmpL_neg xr r
            have h6 := cmpL_neg M[k].row r
            have h7 := cmpL_le_lt (a := r) (b := xr) (c := M[k].row) (by rw [h5, ← HCV.out]; omega) h4
            omega
          · rw [HRF.out k hk (by omega), ← HCV.out]; omega
        case measure => simp [intOf]; omega
    · obtain rfl : i = j := by omega
      by_cases hin : i < M.length
      · obtain ⟨b, off, rfl, hb, h0, h3⟩ := (HR.out.1.step HB.out).it hin
        have HRW := hid (((HR.out.2.step HB.out) M[i] (List.getElem_mem hin)))
        have HSG := hid (fun k (hk : k < M.length) (q : i < k) => HST.out i k hin hk q)
        have HRF := hid (show ∀ k (hk : k < M.length), k = i → M[k].row = M[i].row from fun k hk e => by subst e; rfl)
        have HMI := hid (show ∃ h : i < M.length, M[i].row = M[i].row from ⟨hin, rfl⟩)
        generalize hd : M[i] = d at h0 h3 HRW HSG HRF
        have HD := hid hd
        clear hd
        obtain ⟨xr, xA, xk, xn⟩ := d
        simp only at h0 h3 HRW HSG HRF
        have HC := hid (dis11_any ⟨xr, xA, xk, xn⟩ r RA rc wr HRW.out.1 HRW.out.2 (HX.out.step HB.out) hxl)
        simp only [IR.cells] at HC
        obtain ⟨cv, hcv⟩ : ∃ q, q = cmpL xr r := ⟨_, rfl⟩
        rw [← hcv] at HC
        have HCV := hid hcv
        clear hcv
        go_wp2_with (refine (HC.out).mono ?_; rintro e w1 ⟨rfl, hb1⟩)
        -- STOP-c
        go_ret2
        have hrow : M[i].row = xr := by rw [HD.out]
        refine ⟨i, cv == 0, rfl, fun hf => ⟨hin, ?_⟩, fun hf x hx e => ?_, Below.step' HB.out hb1⟩
        · rw [hrow]
          exact cmpL_eq _ _ (by rw [← HCV.out]; simpa using hf)
        · obtain ⟨k, hk, rfl⟩ := List.getElem_of_mem hx
          have hcv0 : cv ≠ 0 := by simpa using hf
          have hge : 0 ≤ cmpL xr r := by have := HG.out i hin (Nat.le_refl _); rwa [hrow] at this
          rcases Nat.lt_trichotomy k i with q | q | q
          · have := HL.out k hk q
            rw [e, cmpL_self] at this; omega
          · rw [HRF.out k hk q] at e
            rw [e, cmpL_self] at HCV
            exact hcv0 HCV.out
          · have := HSG.out k hk q
            rw [e] at this; omega
      · go_wp2_with fail
        -- STOP-d
        go_ret2
        refine ⟨i, false, rfl, fun hf => (by cases hf), fun _ x hx e => ?_, HB.out⟩
        obtain ⟨k, hk, rfl⟩ := List.getElem_of_mem hx
        have := HL.out k hk (by omega)
        rw [e, cmpL_self] at this; omega
theorem enters_dis1 : ∀ args w, (callFunc 133 args).run Tryz.prog w = .ok (.enter 133 args) w := fun args w => by kernel_rfl
theorem enters_dis2 : ∀ args w, (callFunc 136 args).run Tryz.prog w = .ok (.enter 136 args) w := fun args w => by kernel_rfl
theorem its_mem {M : List IR} {x : IR} (h : x ∈ M) : x.it ∈ its M := List.mem_map.2 ⟨x, h, rfl⟩
theorem strict_mem' : ∀ {L : List It}, Strict L → ∀ x ∈ L, wt L x.1 = x.2
  | y :: L, h, x, hx => by
    rcases List.mem_cons.1 hx with e | e
    · rw [e]; exact strict_wt h
    · have h1 := strict_mem' h.tail x e
      rw [strict_wt_tail h, if_neg (fun q => by
        have := h.2.2.1 x e
        rw [q, cmpL_self] at this; omega)] at h1
      exact h1
set_option maxHeartbeats 1000000 in
set_option maxRecDepth 100000 in
/-- have: how many times a row is there. -/
theorem dis1_any (M : List IR) (r : List Int) (A RA : Option Addr) (c rc b1 : Nat) (w : World) (hr : RowI w w.heap.size A M) (hl : M.length ≤ 1048576) (hx : Row w w.heap.size RA (icells' r)) (hxl : r.length ≤ 9223372036854775807) (hs : Strict (its M))
    (hb : Blk w b1 #[.slice A M.length c] 22) :
    Calls Tryz.prog 133 #[.slice RA r.length rc, .pointer (some ⟨b1, 0, none⟩)] w fun e w' => e = .returned (.int .i64 (wt (its M) r)) ∧ Below w.heap.size w w' := by
  have HC := hid (bs_any M r A RA c rc w hr hl hx hxl hs)
  have HR := hid hr
  have HS := hid hs
  have HXB := hid hb
  clear hr hx hs hb
  go_enter Tryz.func133, Tryz.ntmps133
  obtain ⟨cHXB, fHXB, sHXB, nHXB⟩ := HXB.out.all
  try simp only [cbox] at cHXB
  go_wp2_with fail
  refine HC.out.mono ?_
  rintro e w1 ⟨i, f, rfl, hf1, hf2, hb1⟩
  clear cHXB fHXB sHXB nHXB
  replace HXB := hid (HXB.out.step hb1)
  have HB := hid hb1
  have HF1 := hid hf1
  have HF2 := hid hf2
  clear hf1 hf2 hb1 HC
  cases f
  · have HN := hid (show wt (its M) r = 0 from by
      unfold wt
      rw [tot_none fun y hy e => by
        obtain ⟨x, hx, rfl⟩ := List.mem_map.1 hy
        exact HF2.out rfl x hx e]
      rfl)
    go_wp2_with fail
    go_ret
    rw [HN.out]
    exact ⟨rfl, HB.out⟩
  · obtain ⟨hi, hrow⟩ := HF1.out rfl
    obtain ⟨b, off, rfl, hb, h0, h3⟩ := (HR.out.1.step HB.out).it hi
    have HN := hid (show wt (its M) r = M[i].n from by
      have := strict_mem' HS.out _ (its_mem (List.getElem_mem hi))
      rw [← hrow]; exact this)
    clear hrow h0
    generalize M[i].n = n at *
    have hil : (i : Int) < (M.length : Int) := by omega
    obtain ⟨cHXB, fHXB, sHXB, nHXB⟩ := HXB.out.all
    try simp only [cbox] at cHXB
    go_wp2_with fail
    go_ret
    rw [HN.out]
    exact ⟨rfl, HB.out⟩
theorem dis2_any (n : Int) (w : World) : Calls Tryz.prog 136 #[.int .i64 n] w fun e w' => e = .returned (.int .i64 (onceN n)) ∧ w = w' := by
  have HO := hid (onceN_eq n)
  go_enter Tryz.func136, Tryz.ntmps136
  go_wp2_with fail
  -- STOP-e
  go_ret
  rw [HO.out]
  exact ⟨rfl, rfl⟩
def distN (A : List It) (x : IR) : Int := onceN (wrp (wt A x.row + x.n)) - onceN (wt A x.row)
def distDM (A : List It) (M : List IR) : List IR := (M.filter (fun x => decide (distN A x ≠ 0))).map (fun x => ⟨x.row, x.A, x.k, distN A x⟩)
theorem distDM_its (A : List It) (M : List IR) : its (distDM A M) = distD A (its M) := by
  unfold distDM distD its
  rw [List.filter_map, List.map_map, List.map_map]
  rfl
theorem distDM_rows {w : World} {B : Nat} {A : List It} {M : List IR} (h : RowsAt w B M) : RowsAt w B (distDM A M) := fun y hy => by
  obtain ⟨x, hx, rfl⟩ := List.mem_map.1 hy
  exact h x (List.mem_filter.1 hx).1
theorem distDM_snoc (A : List It) (M : List IR) (i : Nat) (hi : i < M.length) : distDM A (M.take (i + 1)) = distDM A (M.take i) ++ (if distN A M[i] ≠ 0 then [⟨M[i].row, M[i].A, M[i].k, distN A M[i]⟩] else []) := by
  unfold distDM
  rw [List.take_succ_eq_append_getElem hi, List.filter_append, List.map_append, List.filter_cons, List.filter_nil]
  by_cases q : distN A M[i] ≠ 0
  · rw [if_pos (decide_eq_true q), if_pos q]; rfl
  · rw [if_neg (by simpa using q), if_neg q]; rfl
theorem distDM_len (A : List It) (M : List IR) (i : Nat) : (distDM A (M.take i)).length ≤ i := by
  unfold distDM
  rw [List.length_map]
  exact Nat.le_trans (List.length_filter_le _ _) (List.length_take_le _ _)
theorem onceN_in (n : Int) : 0 ≤ onceN n ∧ onceN n ≤ 1 := by unfold onceN; split <;> omega
set_option maxHeartbeats 2000000 in
set_option maxRecDepth 100000 in
theorem distinct_any (M1 M2 : List IR) (A1 A2 : Option Addr) (c1 c2 : Nat) (w : World) (h1 : RowI w w.heap.size A1 M1) (l1 : M1.length ≤ 1048576) (h2 : RowI w w.heap.size A2 M2) (l2 : M2.length ≤ 1048576) (hs : Strict (its M1)) :
    Calls Tryz.prog 108 #[.slice A1 M1.length c1, .slice A2 M2.length c2] w (LiPost (distD (its M1) (its M2)) w) := by
  have HR2 := hid h2
  have HDI := hid (distDM_its (its M1) M2)
  obtain ⟨W, hW⟩ : ∃ W : World, W = w.alloc (.cells #[.slice A1 M1.length c1] 22) := ⟨_, rfl⟩
  have HB := hid (show Below w.heap.size w W by rw [hW]; exact alloc_below (Below.refl _ _) _)
  have HXB := hid (show Blk W w.heap.size #[.slice A1 M1.length c1] 22 by rw [hW]; exact Blk.new _ _ _)
  have HHV := hid (fun (w1 : World) (hb : Below W.heap.size W w1) (r : List Int) (RA : Option Addr) (rc : Nat) (hx : Row w1 w1.heap.size RA (icells' r)) (hxl : r.length ≤ 9223372036854775807) => dis1_any M1 r A1 RA c1 rc w.heap.size w1 ((h1.step HB.out).step hb) l1 hx hxl hs (HXB.out.step hb))
  have hwi := fun r => wrp_in (tot r (its M1))
  have HDN := hid (fun x : IR => show distN (its M1) x = onceN (wrp (wt (its M1) x.row + x.n)) - onceN (wt (its M1) x.row) from rfl)
  have HSN := hid (fun i hi => distDM_snoc (its M1) M2 i hi)
  have HLE := hid (fun i => distDM_len (its M1) M2 i)
  have HRA := hid (fun (w1 : World) (h : RowsAt w1 w1.heap.size M2) => distDM_rows (A := its M1) h)
  obtain ⟨S, hS⟩ : ∃ S, S = its M1 := ⟨_, rfl⟩
  rw [← hS] at HHV HDN HSN HLE HRA HDI hwi ⊢
  have HWI := hid hwi
  clear h1 h2 hs hS hwi
  have e1 := enters_dis1
  have e2 := enters_dis2
  go_enter Tryz.func108, Tryz.ntmps108
  go_upto_region 1 with fail
  rw [← hW]
  clear hW
  go_wp2_with fail
  -- STOP-f
  go_loopw [7, 15] (fun s7 s15 wr => ∃ i : Nat, i ≤ M2.length ∧ s15 = .int .i64 i ∧ Hid (wr.ownsRow W.heap.size 67 2 s7 (distDM S (M2.take i)).length (rcells (distDM S (M2.take i)))) ∧ Hid (Below W.heap.size W wr)) (fun _ s15 _ => M2.length - (intOf s15).toNat)
  case atStart => exact ⟨0, by omega, rfl, hid (by simpa [distDM] using World.ownsRow_nil _ _ _ _), hid (Below.refl _ _)⟩
  case round =>
    obtain ⟨i, hi, rfl, HOWN, HBO⟩ := hrel
    obtain ⟨A5, c5, rfl⟩ := own_formS HOWN.out
    have hso := HBO.out.size
    have HBW := hid (Below.step' HB.out HBO.out)
    have hOl := HLE.out i
    by_cases hlt : i < M2.length
    · obtain ⟨b, off, rfl, hb, q0, q1⟩ := (HR2.out.1.step HBW.out).it hlt
      have HFI := hid (HSN.out i hlt)
      have HRW := hid ((HR2.out.2.step HBW.out) M2[i] (List.getElem_mem hlt))
      generalize M2[i] = x at *
      obtain ⟨xr, xA, xk, xn⟩ := x
      simp only at q0 q1 HFI HRW
      have HNE := hid (HDN.out ⟨xr, xA, xk, xn⟩)
      simp only at HNE
      obtain ⟨O, hO⟩ : ∃ O, O = distDM S (M2.take i) := ⟨_, rfl⟩
      rw [← hO] at HOWN HFI hOl ⊢
      clear hO
      obtain ⟨d, hd⟩ : ∃ d, d = distN S ⟨xr, xA, xk, xn⟩ := ⟨_, rfl⟩
      rw [← hd] at HFI HNE
      clear hd
      have hww := HWI.out xr
      have HHW := hid (fun w1 hb RA rc hx => HHV.out w1 hb xr RA rc hx HRW.out.2)
      obtain ⟨n, hn⟩ : ∃ n, n = wt S xr := ⟨_, rfl⟩
      have hww2 : -9223372036854775808 ≤ n ∧ n ≤ 9223372036854775807 := by rw [hn]; exact hww
      rw [← hn] at HHW HNE
      clear hn hww
      have hwr := wrp_in (n + xn)
      obtain ⟨m, hm⟩ : ∃ m, m = wrp (n + xn) := ⟨_, rfl⟩
      have hm2 : IntKind.i64.wrap (n + xn) = m := hm.symm
      rw [← hm] at HNE hwr
      clear hm
      have o1 := onceN_in m
      have o2 := onceN_in n
      have HO1 := hid (fun w => dis2_any m w)
      have HO2 := hid (fun w => dis2_any n w)
      obtain ⟨u, hu⟩ : ∃ u, u = onceN m := ⟨_, rfl⟩
      obtain ⟨v, hv⟩ : ∃ u, u = onceN n := ⟨_, rfl⟩
      rw [← hu] at HO1 HNE o1
      rw [← hv] at HO2 HNE o2
      have hdq : u - v = d := HNE.out.symm
      have hdw : IntKind.i64.wrap d = d := IntWalk.i64_in _ (by omega)
      clear hu hv
      obtain ⟨W1, hW1⟩ : ∃ W1 : World, W1 = wr.alloc (.cells #[.slice xA xr.length xk, .int .i64 xn] 67) := ⟨_, rfl⟩
      have HB1 := hid (show Below wr.heap.size wr W1 by rw [hW1]; exact alloc_below (Below.refl _ _) _)
      have HXI := hid (show Blk W1 wr.heap.size #[.slice xA xr.length xk, .int .i64 xn] 67 by rw [hW1]; exact Blk.new _ _ _)
      have HO1' := hid (own_laterS HOWN.out HB1.out)
      have HRX := hid (HRW.out.1.step HB1.out)
      go_upto_region 7 with fail
      rw [← hW1]
      clear hW1
      obtain ⟨cHXI, fHXI, sHXI, nHXI⟩ := HXI.out.all
      try simp only [cbox] at cHXI
      go_wp2_with fail
      -- STOP-g
      refine (HHW.out _ (Below.step' HBO.out HB1.out) xA xk HRX.out).mono ?_
      rintro e w2 ⟨rfl, hb2⟩
      clear cHXI fHXI sHXI nHXI
      replace HXI := hid (HXI.out.step hb2)
      have HB2 := hid (Below.step' HB1.out hb2)
      have HO2' := hid (own_laterS HO1'.out hb2)
      have HRX2 := hid (HRX.out.step hb2)
      clear hb2 HO1' HRX
      obtain ⟨cHXI, fHXI, sHXI, nHXI⟩ := HXI.out.all
      try simp only [cbox] at cHXI
      go_wp2_with fail
      refine (HO1.out _).mono ?_
      rintro e w3 ⟨rfl, rfl⟩
      go_wp2_with fail
      refine (HO2.out _).mono ?_
      rintro e w3 ⟨rfl, rfl⟩
      by_cases hz : d = 0
      · have HFJ := hid (show distDM S (M2.take (i + 1)) = O by rw [HFI.out, if_neg (by simp [hz]), List.append_nil])
        have t1 : (d != 0) = false := by simp [hz]
        clear hz
        go_wp2_with fail
        go_roundw
        case rel => exact ⟨i + 1, by omega, by go_num, hid (by rw [HFJ.out]; exact HO2'.out), hid (Below.step' HBO.out HB2.out)⟩
        case measure => simp [intOf]; omega
      · have HFJ := hid (show distDM S (M2.take (i + 1)) = O ++ [⟨xr, xA, xk, d⟩] by rw [HFI.out, if_pos hz])
        have t1 : (d != 0) = true := by simp [hz]
        clear hz
        go_wp2_with (at_builtin; refine wpList_append_row elem_item rfl _ _ rfl W.heap.size _ _ _ rfl (HO2'.out.alloc _) (some ⟨w2.heap.size, 0, none⟩) 1 1 (w2.heap.size + 1) [.slice xA xr.length xk, .int .i64 d] rfl rfl (by exact Row.new' w2 _ _ rfl rfl (Nat.lt_succ_self _)) (rcells_one [⟨xr, xA, xk, d⟩]) ?_ ?_ ?_ ?_; rotate_right; intro v7 w7 hown7 hg7 hif7; rotate_left; (simp only [maxLen]; omega); (omega); (have := HB2.out.size; simp; omega))
        have HOW7 := hid hown7
        have HG7 := hid hg7
        clear hown7 hg7 hif7
        -- STOP-h
        go_roundw
        case rel =>
          refine ⟨i + 1, by omega, by go_num, hid ?_, hid (Below.grown (alloc_below (Below.step' HBO.out HB2.out) _) HG7.out (by have := HB2.out.size; simp; omega) (fun g e => (HO2'.out.lt g e).1))⟩
          rw [HFJ.out, rcells_app, List.length_append]
          exact HOW7.out
        case measure => simp [intOf]; omega
    · have hik : i = M2.length := by omega
      subst hik
      rw [List.take_length] at HOWN ⊢
      clear hOl
      go_wp2_with fail
      go_ret
      exact ⟨A5, c5, distDM S M2, rfl, HDI.out, ⟨Row.of_ownS HOWN.out, HRA.out _ (HR2.out.2.step HBW.out)⟩, HBW.out⟩
end Go.Proofs.YtldlmkfigjicgaaGreatDoor
/- Maps of groups that hold no nought. -/
namespace Go.Proofs.YtldlmkfigjicgaaGreatDoor
set_option linter.unusedVariables false
set_option linter.unusedSimpArgs false
open Go.ChangeShapes Go.WideShapes Go.ChangeAt Go.RowKit

/-- A map of groups: of each number how many and their sum; no entry where both are 0. -/
def FMap (N S : Int → Int) (D : DataW Unit) : Prop :=
  Maps.IsMap D ∧ ∀ k : Int, Maps.has D (kI k) = decide (¬ (N k = 0 ∧ S k = 0)) ∧ (¬ (N k = 0 ∧ S k = 0) → ∀ z, D.atKey (kI k) z = grpD (N k) (S k))
theorem FMap.nil : FMap (fun _ => 0) (fun _ => 0) (.map []) := ⟨Maps.isMap_empty, fun k => ⟨rfl, fun h => absurd ⟨rfl, rfl⟩ h⟩⟩
theorem FMap.at {N S : Int → Int} {D : DataW Unit} (h : FMap N S D) (k : Int) : D.atKey (kI k) (grpD 0 0) = grpD (N k) (S k) := by
  obtain ⟨h1, h2⟩ := h.2 k
  by_cases q : N k = 0 ∧ S k = 0
  · rw [q.1, q.2]
    exact Maps.atKey_of_not_has (by rw [h1]; simpa using q) _
  · exact h2 q _
/-- One number's group turned. -/
def updI (f : Int → Int) (k v : Int) : Int → Int := fun q => if q = k then v else f q
theorem updI_same (f : Int → Int) (k v : Int) : updI f k v k = v := if_pos rfl
theorem updI_other (f : Int → Int) {k q : Int} (v : Int) (h : q ≠ k) : updI f k v q = f q := if_neg h
theorem FMap.put {N S : Int → Int} {D : DataW Unit} (h : FMap N S D) (k n m : Int) (hz : ¬ (n = 0 ∧ m = 0)) : FMap (updI N k n) (updI S k m) (D.put (kI k) (grpD n m)) := by
  refine ⟨h.1.put _ _, fun q => ?_⟩
  by_cases e : q = k
  · subst e
    rw [updI_same, updI_same, Maps.has_put_same h.1 (isKeyI _)]
    exact ⟨(decide_eq_true hz).symm, fun _ z => Maps.atKey_put_same h.1 (isKeyI _) _ _⟩
  · rw [updI_other _ _ e, updI_other _ _ e, Maps.has_put_other (kI_ne e)]
    refine ⟨(h.2 q).1, fun hq z => ?_⟩
    rw [Maps.atKey_put_other (kI_ne e)]
    exact (h.2 q).2 hq z
theorem FMap.drop {N S : Int → Int} {D : DataW Unit} (h : FMap N S D) (k : Int) (d : DataW Unit) : FMap (updI N k 0) (updI S k 0) ((D.put (kI k) d).del (kI k)) := by
  refine ⟨(h.1.put _ _).del _, fun q => ?_⟩
  by_cases e : q = k
  · subst e
    rw [updI_same, updI_same, Maps.has_del_same]
    exact ⟨rfl, fun hq => absurd ⟨rfl, rfl⟩ hq⟩
  · rw [updI_other _ _ e, updI_other _ _ e, Maps.has_del_other (kI_ne e), Maps.has_put_other (kI_ne e)]
    refine ⟨(h.2 q).1, fun hq z => ?_⟩
    rw [Maps.atKey_del_other (kI_ne e), Maps.atKey_put_other (kI_ne e)]
    exact (h.2 q).2 hq z
theorem nodup_len : ∀ {l K : List Int}, l.Nodup → (∀ x ∈ l, x ∈ K) → l.length ≤ K.length
  | [], _, _, _ => Nat.zero_le _
  | x :: l, K, hn, hs => by
    have hx : x ∈ K := hs x (by simp)
    have := nodup_len (l := l) (K := K.erase x) (List.nodup_cons.1 hn).2 fun y hy => (List.mem_erase_of_ne (fun e => (List.nodup_cons.1 hn).1 (by rw [← e]; exact hy))).2 (hs y (by simp [hy]))
    rw [List.length_erase_of_mem hx] at this
    have : 0 < K.length := List.length_pos_of_mem hx
    simp only [List.length_cons]; omega
/-- A map of groups has no more entries than it reads as. -/
theorem ownsMap_tight {w : World} {b n : Nat} {D : DataW Unit} (h : w.ownsMap Tryz.prog 3 grpElem b n D) {K : List Int} (hK : ∀ k : Int, Maps.has D (kI k) = true → k ∈ K) : w.ownsMap Tryz.prog 3 grpElem b K.length D := by
  obtain ⟨L, hL, hp, hk⟩ := h.entries int_law
  obtain ⟨es, clock, hb, F, hs, hD⟩ := h
  refine ⟨es, clock, hb, F, ?_, hD⟩
  have hlen : L.length = es.size := by
    rw [hL] at hD
    injection hD with hD
    rw [hD, length_sorted, List.length_map]; simp
  have hsh : ∀ p ∈ L, ∃ k : Int, p.1 = kI k := fun p hp2 => by
    rw [hL] at hD
    injection hD with hD
    rw [hD] at hp2
    obtain ⟨x, hx, rfl⟩ := List.mem_map.1 (mem_sorted.1 hp2)
    obtain ⟨y, hy⟩ := F.reads x hx
    rw [Go.WideElems.rg_of hy]
    obtain ⟨z, -, e, -⟩ := Maps.keyOf_int_inv Tryz.underlying3 (Go.WideElems.rd_key hy)
    exact ⟨z, e⟩
  have hhas : ∀ p ∈ L, Maps.has D p.1 = true := fun p hp2 => by
    rw [hL, Maps.has_eq, List.any_eq_true]
    obtain ⟨k, e⟩ := hsh p hp2
    exact ⟨p, hp2, by rw [e]; simp [Lit.sameKey]⟩
  rw [← hlen]
  -- the keys, as numbers
  let f : Lit × DataW Unit → Int := fun p => match p.1 with | .int _ k => k | _ => 0
  have hf : ∀ p ∈ L, p.1 = kI (f p) := fun p hp2 => by
    obtain ⟨k, e⟩ := hsh p hp2
    show p.1 = kI (match p.1 with | .int _ k => k | _ => 0)
    rw [e]
  have hnd : (L.map f).Nodup := by
    refine List.pairwise_map.2 (List.Pairwise.imp_of_mem ?_ hp)
    intro a b ha hb2 hne e
    exact hne (by rw [hf a ha, hf b hb2, e])
  have hsub : ∀ k ∈ L.map f, k ∈ K := fun k hk2 => by
    obtain ⟨p, hp2, rfl⟩ := List.mem_map.1 hk2
    exact hK _ (by rw [← hf p hp2]; exact hhas p hp2)
  have := nodup_len hnd hsub
  simpa using this
theorem FMap.congr {N S N' S' : Int → Int} {D : DataW Unit} (h : FMap N S D) (hN : ∀ k, N k = N' k) (hS : ∀ k, S k = S' k) : FMap N' S' D := by
  have e1 : N = N' := funext hN
  have e2 : S = S' := funext hS
  rw [← e1, ← e2]; exact h
theorem kI_same (q k : Int) : (kI q).sameKey (kI k) = decide (q = k) := by
  by_cases e : q = k
  · subst e; simp [Lit.sameKey]
  · have : kI q ≠ kI k := kI_ne e
    rw [decide_eq_false e]
    simp [Lit.sameKey, e]
/-- Of what a map has that part that was met. -/
def metF (f : Int → Int) (left : Lit → Bool) : Int → Int := fun q => if left (kI q) = true then 0 else f q
theorem metF_step (f : Int → Int) {left : Lit → Bool} {k : Int} (hk : left (kI k) = true) (q : Int) : metF f (fun z => left z && !z.sameKey (kI k)) q = updI (metF f left) k (f k) q := by
  unfold metF
  by_cases e : q = k
  · subst e
    rw [updI_same]; simp [kI_same]
  · rw [updI_other _ _ e]; simp [kI_same, e]
theorem metF_end (f : Int → Int) {left : Lit → Bool} (h : ∀ kl, left kl = false) (q : Int) : metF f left q = f q := by
  unfold metF; rw [h]; simp
theorem metF_start {N S : Int → Int} {D : DataW Unit} (h : FMap N S D) (q : Int) : metF N (Maps.has D) q = 0 ∧ metF S (Maps.has D) q = 0 := by
  unfold metF
  obtain ⟨h1, -⟩ := h.2 q
  rw [h1]
  by_cases e : N q = 0 ∧ S q = 0
  · simp [e.1, e.2]
  · simp [e]
/-- What was there, and of what was met what is there then. -/
def turnF (f g : Int → Int) (K : List Int) (left : Lit → Bool) : Int → Int := fun q => if q ∈ K ∧ left (kI q) = false then wrp (f q + g q) else f q
theorem turnF_step (f g : Int → Int) {K : List Int} {left : Lit → Bool} {k : Int} (hK : k ∈ K) (hk : left (kI k) = true) (q : Int) : turnF f g K (fun z => left z && !z.sameKey (kI k)) q = updI (turnF f g K left) k (wrp (f k + g k)) q := by
  unfold turnF
  by_cases e : q = k
  · subst e
    rw [updI_same]; simp [kI_same, hK]
  · rw [updI_other _ _ e]; simp [kI_same, e]
theorem turnF_left (f g : Int → Int) {K : List Int} {left : Lit → Bool} {k : Int} (hk : left (kI k) = true) : turnF f g K left k = f k := by
  unfold turnF; simp [hk]
theorem turnF_start (f g : Int → Int) {s : St} {a : List It} {D : DataW Unit} (h : GMap s a D) (q : Int) : turnF f g (keysG s a) (Maps.has D) q = f q := by
  unfold turnF
  by_cases hq : q ∈ keysG s a
  · have h1 := (h.2 q).1
    have h2 := (dedupI_mem _ _).1 hq
    rw [h1, if_neg]
    rintro ⟨-, e⟩
    have : decide (q ∈ colsG s a) = true := decide_eq_true h2
    rw [this] at e; cases e
  · rw [if_neg fun e => hq e.1]
theorem turnF_end (f g : Int → Int) {K : List Int} {left : Lit → Bool} (h : ∀ kl, left kl = false) (hg : ∀ q, q ∉ K → wrp (f q + g q) = f q) (q : Int) : turnF f g K left q = wrp (f q + g q) := by
  unfold turnF
  by_cases hq : q ∈ K
  · rw [if_pos ⟨hq, h _⟩]
  · rw [if_neg fun e => hq e.1, hg q hq]
theorem grp_wrp (s : St) (A a : List It) (q : Int) (h : q ∉ keysG s a) : wrp (grpN s A q + grpN s a q) = grpN s A q := by
  rw [(grp_out h).1, Int.add_zero]; exact wrp_wrp _
theorem grp_wrp2 (s : St) (A a : List It) (q : Int) (h : q ∉ keysG s a) : wrp (grpS s A q + grpS s a q) = grpS s A q := by
  rw [(grp_out h).2, Int.add_zero]
  unfold grpS; split
  · exact wrp_wrp _
  · rfl
/-- The rows of groups that were met. -/
def doneR (s : St) (A a : List It) (left : Lit → Bool) : List It := ((keysG s a).filter (fun k => !left (kI k))).flatMap (fun k => negL (toldL s k (grpN s A k) (grpS s A k)) ++ toldL s k (wrp (grpN s A k + grpN s a k)) (wrp (grpS s A k + grpS s a k)))
theorem flatMap_permR {f : Int → List It} {a b : List Int} (h : a.Perm b) : (a.flatMap f).Perm (b.flatMap f) := by
  induction h with
  | nil => exact List.Perm.refl _
  | cons x _ ih => rw [List.flatMap_cons, List.flatMap_cons]; exact ih.append_left _
  | swap x y l => rw [List.flatMap_cons, List.flatMap_cons, List.flatMap_cons, List.flatMap_cons, ← List.append_assoc, ← List.append_assoc]; exact List.perm_append_comm.append_right _
  | trans _ _ h1 h2 => exact h1.trans h2
theorem filter_moreR {l : List Int} (hn : l.Nodup) {x : Int} (hx : x ∈ l) {p q : Int → Bool} (hp : p x = false) (hq : ∀ y, q y = (p y || decide (y = x))) : (l.filter q).Perm (l.filter p ++ [x]) := by
  induction l with
  | nil => simp at hx
  | cons y l ih =>
    have hny := (List.nodup_cons.1 hn).1
    have hnl := (List.nodup_cons.1 hn).2
    by_cases e : y = x
    · subst e
      have hrest : l.filter q = l.filter p := List.filter_congr fun z hz => by
        rw [hq z]
        have : z ≠ y := fun e => hny (e ▸ hz)
        simp [this]
      rw [List.filter_cons_of_pos (by rw [hq]; simp), List.filter_cons_of_neg (by simp [hp]), hrest]
      exact (List.perm_append_comm (l₁ := [y]) (l₂ := l.filter p))
    · have hx' : x ∈ l := by
        rcases List.mem_cons.1 hx with h | h
        · exact absurd h.symm e
        · exact h
      have ih' := ih hnl hx'
      by_cases hpy : p y = true
      · rw [List.filter_cons_of_pos (by rw [hq]; simp [hpy]), List.filter_cons_of_pos hpy]
        exact ih'.cons y
      · rw [List.filter_cons_of_neg (by rw [hq]; simp [hpy, e]), List.filter_cons_of_neg hpy]
        exact ih'
theorem doneR_step (s : St) (A a : List It) {left : Lit → Bool} {k : Int} (hk : k ∈ keysG s a) (hl : left (kI k) = true) :
    (doneR s A a (fun z => left z && !z.sameKey (kI k))).Perm (doneR s A a left ++ (negL (toldL s k (grpN s A k) (grpS s A k)) ++ toldL s k (wrp (grpN s A k + grpN s a k)) (wrp (grpS s A k + grpS s a k)))) := by
  have h := filter_moreR (l := keysG s a) (dedupI_nodup _) hk (p := fun q => !left (kI q)) (q := fun q => !(left (kI q) && !(kI q).sameKey (kI k))) (by simp [hl]) fun y => by
    rw [kI_same]; simp
  have h2 := flatMap_permR (f := fun k => negL (toldL s k (grpN s A k) (grpS s A k)) ++ toldL s k (wrp (grpN s A k + grpN s a k)) (wrp (grpS s A k + grpS s a k))) h
  rw [List.flatMap_append] at h2
  unfold doneR
  refine h2.trans ?_
  rw [List.flatMap_cons, List.flatMap_nil, List.append_nil]
theorem doneR_start (s : St) (A a : List It) {D : DataW Unit} (h : GMap s a D) : doneR s A a (Maps.has D) = [] := by
  unfold doneR
  have : (keysG s a).filter (fun k => !Maps.has D (kI k)) = [] := List.filter_eq_nil_iff.2 fun k hk => by
    rw [(h.2 k).1]
    have := (dedupI_mem _ _).1 hk
    simp [colsG, this]
  rw [this]; rfl
theorem doneR_end (s : St) (A a : List It) {left : Lit → Bool} (h : ∀ kl, left kl = false) : doneR s A a left = grpMore s A a := by
  unfold doneR grpMore
  rw [List.filter_eq_self.2 fun k _ => by rw [h]; rfl]
theorem toldL_lenR (s : St) (k n m : Int) : (toldL s k n m).length ≤ 1 := by unfold toldL; split <;> simp
theorem doneR_len (s : St) (A a : List It) (left : Lit → Bool) : (doneR s A a left).length ≤ a.length * 2 := by
  unfold doneR
  have h1 := flat_le (fun k => negL (toldL s k (grpN s A k) (grpS s A k)) ++ toldL s k (wrp (grpN s A k + grpN s a k)) (wrp (grpS s A k + grpS s a k))) 2 ((keysG s a).filter (fun k => !left (kI k))) fun k _ => by
    rw [List.length_append, negL, List.length_map]
    have := toldL_lenR s k (grpN s A k) (grpS s A k)
    have := toldL_lenR s k (wrp (grpN s A k + grpN s a k)) (wrp (grpS s A k + grpS s a k))
    omega
  have h2 := List.length_filter_le (fun k => !left (kI k)) (keysG s a)
  have h3 := dedupI_len (a.map (fun x => colD x.1 s.col))
  rw [List.length_map] at h3
  have h4 : (keysG s a).length ≤ a.length := h3
  omega
theorem grpMore_len (s : St) (A a : List It) : (grpMore s A a).length ≤ a.length * 2 := by
  rw [← doneR_end s A a (left := fun _ => false) (fun _ => rfl)]
  exact doneR_len s A a _
end Go.Proofs.YtldlmkfigjicgaaGreatDoor
