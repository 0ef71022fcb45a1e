/- QrG, QrH, ZsH -/
import Derived.Test.YtamlaeocojcgdaaDoorQueryBackCardS08
/- query.step: where, pick, no word; all. -/
namespace Go.Proofs.YtamlaeocojcgdaaDoor
set_option linter.unusedVariables false
set_option linter.unusedSimpArgs false
open Go.ChangeShapes Go.WideShapes Go.ChangeAt Go.RowKit

set_option maxHeartbeats 4000000 in
set_option maxRecDepth 100000 in
theorem qstep_k2 (v : List UInt8) (r : List (List UInt8)) (n ba oa : Nat) (w : World) (hn : r.length = n) (hw : WordsAt w w.heap.size (some ⟨ba, oa, none⟩) (v :: r)) (hl2 : n ≤ 1999) (hm : MaxAt w) (hv : v = verbB 2) :
    Calls Tryd.prog 20 #[.slice (some ⟨ba, oa, none⟩) (n + 1) (n + 1)] w (StepPost (v :: r) w) := by
  have HW := hid hw
  have HM := hid hm
  clear hw hm
  have hcv : ba < w.heap.size ∧ w.cell? ⟨ba, oa, none⟩ = some (.string (bstr v)) := by
    rcases HW.out.2 with e | ⟨ba', oa', e, h2, h3, h4⟩
    · cases e
    · obtain ⟨rfl, rfl, -⟩ := Addr.mk.inj (Option.some.inj e)
      exact ⟨h3, h4 0 v rfl⟩
  obtain ⟨hbw, hcv⟩ := hcv
  obtain ⟨BV, hBV⟩ : ∃ q, q = bstr v := ⟨_, rfl⟩
  rw [← hBV] at hcv
  have HBV := hid hBV
  clear hBV
  obtain ⟨W2, hW2⟩ : ∃ q, q = (w.alloc (.cells (stC 0 0 0 0 0 0 (.slice none 0 0)) 40)).alloc (.cells (stC 0 0 0 0 0 0 (.slice none 0 0)) 40) := ⟨_, rfl⟩
  have hb2 : Below w.heap.size w W2 := by rw [hW2]; exact ((Below.refl _ _).alloc (Nat.le_refl _) _).alloc (by simp) _
  have HB2 := hid hb2
  have HX2 := hid (show Blk W2 (w.heap.size + 1) (stC 0 0 0 0 0 0 (.slice none 0 0)) 40 by rw [hW2]; exact Blk.new' _ _ _ (by simp))
  have HY2 := hid (show Blk W2 w.heap.size (stC 0 0 0 0 0 0 (.slice none 0 0)) 40 by rw [hW2]; exact (Blk.new _ _ _).alloc _)
  have hs2 : W2.heap.size = w.heap.size + 1 + 1 := by rw [hW2]; simp
  clear hb2
  -- the words behind the first
  obtain ⟨A1, c1, hA1⟩ : ∃ (A1 : Addr) (c1 : Nat), (n = 0 → A1 = ⟨ba, oa, none⟩) ∧ (n ≠ 0 → A1 = ⟨ba, oa + 1, none⟩) := by
    by_cases q : n = 0
    · exact ⟨_, 0, fun _ => rfl, fun h => absurd q h⟩
    · exact ⟨_, 0, fun h => absurd h q, fun _ => rfl⟩
  have HT := hid (show ∀ b, ba ≠ b → WordsAt w b (some A1) r from fun b hb => by
    by_cases q : n = 0
    · have : r = [] := List.length_eq_zero_iff.1 (hn.trans q)
      rw [this]; exact ⟨fun l hl => (by cases hl), .inl rfl⟩
    · rw [hA1.2 q]
      have h0 : WordsAt w b (some ⟨ba, oa, none⟩) (v :: r) := ⟨HW.out.1, HW.out.2.imp id fun ⟨ba', oa', h1, h2, h3, h4⟩ => ⟨ba', oa', h1, by
        obtain ⟨rfl, rfl, -⟩ := Addr.mk.inj (Option.some.inj h1)
        exact hb, h3, h4⟩⟩
      exact h0.tail)
  have HWD := hid (HT.out (w.heap.size + 1) (by omega))
  have HV := hid hv
  have hk : kindR v = 2 := by rw [hv]; decide
  have HF := hid (step_where (r := r) hk)
  clear hk hv
  have e1 : (BV.toList == [116, 97, 98, 108, 101]) = false := bsq_eqLF HBV.out (by rw [HV.out]; decide)
  have e2 : (BV.toList == [119, 104, 101, 114, 101]) = true := bsq_eqLT HBV.out (HV.out.trans rfl)
  obtain ⟨W3, hW3⟩ : ∃ q, q = (w.alloc (.cells (stC 0 0 0 0 0 0 (.slice none 0 0)) 40)).alloc (.cells (stC 2 0 0 0 0 0 (.slice none 0 0)) 40) := ⟨_, rfl⟩
  have HX2' := hid (show Blk W3 (w.heap.size + 1) (stC 2 0 0 0 0 0 (.slice none 0 0)) 40 by rw [hW3]; exact Blk.new' _ _ _ (by simp))
  have HY2' := hid (show Blk W3 w.heap.size (stC 0 0 0 0 0 0 (.slice none 0 0)) 40 by rw [hW3]; exact (Blk.new _ _ _).alloc _)
  have HB3 := hid (show Below w.heap.size w W3 by rw [hW3]; exact ((Below.refl _ _).alloc (Nat.le_refl _) _).alloc (by simp) _)
  have hs3 : W3.heap.size = w.heap.size + 1 + 1 := by rw [hW3]; simp
  have HWD3 := hid (HWD.out.step HB3.out)
  clear hW2 hs2 HB2 HX2 HY2
  have HA := hid (fun c1 => qwhere_any r (some A1) c1 (w.heap.size + 1) 2 (.slice none 0 0) W3 HWD3.out (by omega) HX2'.out)
  obtain ⟨RB, hRB⟩ : ∃ q, q = (whereR r).isSome := ⟨_, rfl⟩
  rw [← hRB, hn] at HA
  have HRB := hid (show RB = (stepR (v :: r)).isSome by rw [hRB, HF.out.1])
  have HNL := hid hn
  clear hRB hn
  rcases Nat.eq_zero_or_pos n with h0 | h0
  · obtain rfl := hA1.1 h0
    subst h0
    clear hA1
    go_enter Tryd.func20, Tryd.ntmps20
    go_wp2_with fail
    rw [← hW3]
    -- STOP-k20
    refine (HA.out _).mono ?_
    rintro e w3 ⟨rfl, hg3, a', b', c', p', v', hx3, hs3'⟩
    have HX3 := hid hx3
    have HY3 := hid (HY2'.out.grown' hg3 (eq_false (fun e => by injection e with e; omega)))
    have HS3 := hid hs3'
    have hg : Below w.heap.size w w3 := Below.grown HB3.out hg3 HB3.out.size (fun g e => by injection e with e; omega)
    clear hx3 hg3 hs3'
    obtain ⟨cHX3, fHX3, sHX3, nHX3⟩ := HX3.out.all
    try simp only [cbox] at cHX3
    obtain ⟨cHY3, fHY3, sHY3, nHY3⟩ := HY3.out.all
    try simp only [cbox] at cHY3
    go_wp2_with fail
    obtain ⟨wF, hwF⟩ : ∃ q, q = qset7 w3 w.heap.size (.int .i64 2) (.int .i64 a') (.int .i64 b') (.int .i64 c') (.int .i64 p') (.int .i64 v') (.slice none 0 0) := ⟨_, rfl⟩
    have HYF : Blk wF w.heap.size (stC 2 a' b' c' p' v' (.slice none 0 0)) 40 := by rw [hwF]; exact Blk.qset7 HY3.out _ _ _ _ _ _ _
    have hbF : Below w.heap.size w wF := by
      rw [hwF]
      simp only [qset7]
      (repeat' (first | (with_reducible exact Below.refl _ _) | (with_reducible assumption) | (with_reducible refine below_drewN ?_ _) | (with_reducible refine Below.drew ?_) | (with_reducible refine Below.alloc ?_ ?_ _) | (with_reducible refine Below.setCell ?_ ?_ _) | (refine Below.trans ?_ (Below.mono (by assumption) ?_)) | go_size))
    have HWF := hid hwF
    simp only [qset7] at hwF
    rw [← hwF]
    have q0 := HYF.cells.1 0
    have q1 := HYF.cells.1 1
    have q2 := HYF.cells.1 2
    have q3 := HYF.cells.1 3
    have q4 := HYF.cells.1 4
    have q5 := HYF.cells.1 5
    have q6 := HYF.cells.1 6
    simp [stC] at q0 q1 q2 q3 q4 q5 q6
    clear hwF HYF hg
    refine bodyPost_ret (v := .tuple #[.agg (stC 2 a' b' c' p' v' (.slice none 0 0)), .bool RB]) (by simp [results, Tryd.results20, go_sem, q0, q1, q2, q3, q4, q5, q6]) rfl ?_
    refine ⟨2, a', b', c', p', v', none, 0, 0, by rw [← HRB.out], hbF, fun st h => ?_⟩
    obtain ⟨p, a, c, d, h1, rfl⟩ := HF.out.2 st h
    obtain ⟨e1, e2, e3⟩ := HS3.out p _ h1
    injection e2 with e2 e4
    injection e4 with e4 e5
    injection e5 with e5
    exact ⟨[], by rw [e1, e2, e3, e4, e5], rfl, NewInts.nil _ _⟩
  · have hz : (n = 0) = False := eq_false (by omega)
    have hz2 : (n + 1 = 1) = False := eq_false (by omega)
    have hz3 : (1 : Int) ≤ ((n + 1 : Nat) : Int) := by omega
    obtain rfl := hA1.2 (by omega)
    clear hA1
    go_enter Tryd.func20, Tryd.ntmps20
    go_wp2_with fail
    rw [← hW3]
    -- STOP-k21
    refine (HA.out _).mono ?_
    rintro e w3 ⟨rfl, hg3, a', b', c', p', v', hx3, hs3'⟩
    have HX3 := hid hx3
    have HY3 := hid (HY2'.out.grown' hg3 (eq_false (fun e => by injection e with e; omega)))
    have HS3 := hid hs3'
    have hg : Below w.heap.size w w3 := Below.grown HB3.out hg3 HB3.out.size (fun g e => by injection e with e; omega)
    clear hx3 hg3 hs3'
    obtain ⟨cHX3, fHX3, sHX3, nHX3⟩ := HX3.out.all
    try simp only [cbox] at cHX3
    obtain ⟨cHY3, fHY3, sHY3, nHY3⟩ := HY3.out.all
    try simp only [cbox] at cHY3
    go_wp2_with fail
    obtain ⟨wF, hwF⟩ : ∃ q, q = qset7 w3 w.heap.size (.int .i64 2) (.int .i64 a') (.int .i64 b') (.int .i64 c') (.int .i64 p') (.int .i64 v') (.slice none 0 0) := ⟨_, rfl⟩
    have HYF : Blk wF w.heap.size (stC 2 a' b' c' p' v' (.slice none 0 0)) 40 := by rw [hwF]; exact Blk.qset7 HY3.out _ _ _ _ _ _ _
    have hbF : Below w.heap.size w wF := by
      rw [hwF]
      simp only [qset7]
      (repeat' (first | (with_reducible exact Below.refl _ _) | (with_reducible assumption) | (with_reducible refine below_drewN ?_ _) | (with_reducible refine Below.drew ?_) | (with_reducible refine Below.alloc ?_ ?_ _) | (with_reducible refine Below.setCell ?_ ?_ _) | (refine Below.trans ?_ (Below.mono (by assumption) ?_)) | go_size))
    have HWF := hid hwF
    simp only [qset7] at hwF
    rw [← hwF]
    have q0 := HYF.cells.1 0
    have q1 := HYF.cells.1 1
    have q2 := HYF.cells.1 2
    have q3 := HYF.cells.1 3
    have q4 := HYF.cells.1 4
    have q5 := HYF.cells.1 5
    have q6 := HYF.cells.1 6
    simp [stC] at q0 q1 q2 q3 q4 q5 q6
    clear hwF HYF hg
    refine bodyPost_ret (v := .tuple #[.agg (stC 2 a' b' c' p' v' (.slice none 0 0)), .bool RB]) (by simp [results, Tryd.results20, go_sem, q0, q1, q2, q3, q4, q5, q6]) rfl ?_
    refine ⟨2, a', b', c', p', v', none, 0, 0, by rw [← HRB.out], hbF, fun st h => ?_⟩
    obtain ⟨p, a, c, d, h1, rfl⟩ := HF.out.2 st h
    obtain ⟨e1, e2, e3⟩ := HS3.out p _ h1
    injection e2 with e2 e4
    injection e4 with e4 e5
    injection e5 with e5
    exact ⟨[], by rw [e1, e2, e3, e4, e5], rfl, NewInts.nil _ _⟩
set_option maxHeartbeats 4000000 in
set_option maxRecDepth 100000 in
theorem qstep_k3 (v : List UInt8) (r : List (List UInt8)) (n ba oa : Nat) (w : World) (hn : r.length = n) (hw : WordsAt w w.heap.size (some ⟨ba, oa, none⟩) (v :: r)) (hl2 : n ≤ 1999) (hm : MaxAt w) (hv : v = verbB 3) (hgm : 1 < w.heap.size) :
    Calls Tryd.prog 20 #[.slice (some ⟨ba, oa, none⟩) (n + 1) (n + 1)] w (StepPost (v :: r) w) := by
  have HW := hid hw
  have HM := hid hm
  clear hw hm
  have hcv : ba < w.heap.size ∧ w.cell? ⟨ba, oa, none⟩ = some (.string (bstr v)) := by
    rcases HW.out.2 with e | ⟨ba', oa', e, h2, h3, h4⟩
    · cases e
    · obtain ⟨rfl, rfl, -⟩ := Addr.mk.inj (Option.some.inj e)
      exact ⟨h3, h4 0 v rfl⟩
  obtain ⟨hbw, hcv⟩ := hcv
  obtain ⟨BV, hBV⟩ : ∃ q, q = bstr v := ⟨_, rfl⟩
  rw [← hBV] at hcv
  have HBV := hid hBV
  clear hBV
  obtain ⟨W2, hW2⟩ : ∃ q, q = (w.alloc (.cells (stC 0 0 0 0 0 0 (.slice none 0 0)) 40)).alloc (.cells (stC 0 0 0 0 0 0 (.slice none 0 0)) 40) := ⟨_, rfl⟩
  have hb2 : Below w.heap.size w W2 := by rw [hW2]; exact ((Below.refl _ _).alloc (Nat.le_refl _) _).alloc (by simp) _
  have HB2 := hid hb2
  have HX2 := hid (show Blk W2 (w.heap.size + 1) (stC 0 0 0 0 0 0 (.slice none 0 0)) 40 by rw [hW2]; exact Blk.new' _ _ _ (by simp))
  have HY2 := hid (show Blk W2 w.heap.size (stC 0 0 0 0 0 0 (.slice none 0 0)) 40 by rw [hW2]; exact (Blk.new _ _ _).alloc _)
  have hs2 : W2.heap.size = w.heap.size + 1 + 1 := by rw [hW2]; simp
  clear hb2
  -- the words behind the first
  obtain ⟨A1, c1, hA1⟩ : ∃ (A1 : Addr) (c1 : Nat), (n = 0 → A1 = ⟨ba, oa, none⟩) ∧ (n ≠ 0 → A1 = ⟨ba, oa + 1, none⟩) := by
    by_cases q : n = 0
    · exact ⟨_, 0, fun _ => rfl, fun h => absurd q h⟩
    · exact ⟨_, 0, fun h => absurd h q, fun _ => rfl⟩
  have HT := hid (show ∀ b, ba ≠ b → WordsAt w b (some A1) r from fun b hb => by
    by_cases q : n = 0
    · have : r = [] := List.length_eq_zero_iff.1 (hn.trans q)
      rw [this]; exact ⟨fun l hl => (by cases hl), .inl rfl⟩
    · rw [hA1.2 q]
      have h0 : WordsAt w b (some ⟨ba, oa, none⟩) (v :: r) := ⟨HW.out.1, HW.out.2.imp id fun ⟨ba', oa', h1, h2, h3, h4⟩ => ⟨ba', oa', h1, by
        obtain ⟨rfl, rfl, -⟩ := Addr.mk.inj (Option.some.inj h1)
        exact hb, h3, h4⟩⟩
      exact h0.tail)
  have HWD := hid (HT.out (w.heap.size + 1) (by omega))
  have HV := hid hv
  have hk : kindR v = 3 := by rw [hv]; decide
  have HF := hid (step_pick (r := r) hk)
  clear hk hv
  have e1 : (BV.toList == [116, 97, 98, 108, 101]) = false := bsq_eqLF HBV.out (by rw [HV.out]; decide)
  have e2 : (BV.toList == [119, 104, 101, 114, 101]) = false := bsq_eqLF HBV.out (by rw [HV.out]; decide)
  have e3 : (BV.toList == [112, 105, 99, 107]) = true := bsq_eqLT HBV.out (HV.out.trans rfl)
  obtain ⟨W3, hW3⟩ : ∃ q, q = (w.alloc (.cells (stC 0 0 0 0 0 0 (.slice none 0 0)) 40)).alloc (.cells (stC 3 0 0 0 0 0 (.slice none 0 0)) 40) := ⟨_, rfl⟩
  have HX2' := hid (show Blk W3 (w.heap.size + 1) (stC 3 0 0 0 0 0 (.slice none 0 0)) 40 by rw [hW3]; exact Blk.new' _ _ _ (by simp))
  have HY2' := hid (show Blk W3 w.heap.size (stC 0 0 0 0 0 0 (.slice none 0 0)) 40 by rw [hW3]; exact (Blk.new _ _ _).alloc _)
  have HB3 := hid (show Below w.heap.size w W3 by rw [hW3]; exact ((Below.refl _ _).alloc (Nat.le_refl _) _).alloc (by simp) _)
  have hs3 : W3.heap.size = w.heap.size + 1 + 1 := by rw [hW3]; simp
  have HWD3 := hid (HWD.out.step HB3.out)
  clear hW2 hs2 HB2 HX2 HY2
  have HA := hid (fun c1 (h : r.length ≤ c1) => qpick_any r (some A1) c1 (w.heap.size + 1) 3 W3 HWD3.out (by omega) HX2'.out (HM.out.step HB3.out) (by omega) h)
  obtain ⟨RB, hRB⟩ : ∃ q, q = (pickW r).isSome := ⟨_, rfl⟩
  rw [← hRB, hn] at HA
  have HRB := hid (show RB = (stepR (v :: r)).isSome by rw [hRB, HF.out.1])
  have HNL := hid hn
  clear hRB hn
  rcases Nat.eq_zero_or_pos n with h0 | h0
  · obtain rfl := hA1.1 h0
    subst h0
    clear hA1
    go_enter Tryd.func20, Tryd.ntmps20
    go_wp2_with fail
    rw [← hW3]
    -- STOP-k30
    refine (HA.out _ (by omega)).mono ?_
    rintro e w3 ⟨rfl, hg3, a', b', c', v', A', n', c2', hx3, hs3'⟩
    have HX3 := hid hx3
    have HY3 := hid (HY2'.out.grown' hg3 (eq_false (fun e => by injection e with e; omega)))
    have HS3 := hid hs3'
    have hg : Below w.heap.size w w3 := Below.grown HB3.out hg3 HB3.out.size (fun g e => by injection e with e; omega)
    clear hx3 hg3 hs3'
    obtain ⟨cHX3, fHX3, sHX3, nHX3⟩ := HX3.out.all
    try simp only [cbox] at cHX3
    obtain ⟨cHY3, fHY3, sHY3, nHY3⟩ := HY3.out.all
    try simp only [cbox] at cHY3
    go_wp2_with fail
    obtain ⟨wF, hwF⟩ : ∃ q, q = qset7 w3 w.heap.size (.int .i64 3) (.int .i64 a') (.int .i64 b') (.int .i64 c') (.int .i64 0) (.int .i64 v') (.slice A' n' c2') := ⟨_, rfl⟩
    have HYF : Blk wF w.heap.size (stC 3 a' b' c' 0 v' (.slice A' n' c2')) 40 := by rw [hwF]; exact Blk.qset7 HY3.out _ _ _ _ _ _ _
    have hbF : Below w.heap.size w wF := by
      rw [hwF]
      simp only [qset7]
      (repeat' (first | (with_reducible exact Below.refl _ _) | (with_reducible assumption) | (with_reducible refine below_drewN ?_ _) | (with_reducible refine Below.drew ?_) | (with_reducible refine Below.alloc ?_ ?_ _) | (with_reducible refine Below.setCell ?_ ?_ _) | (refine Below.trans ?_ (Below.mono (by assumption) ?_)) | go_size))
    have HWF := hid hwF
    simp only [qset7] at hwF
    rw [← hwF]
    have q0 := HYF.cells.1 0
    have q1 := HYF.cells.1 1
    have q2 := HYF.cells.1 2
    have q3 := HYF.cells.1 3
    have q4 := HYF.cells.1 4
    have q5 := HYF.cells.1 5
    have q6 := HYF.cells.1 6
    simp [stC] at q0 q1 q2 q3 q4 q5 q6
    clear hwF HYF hg
    refine bodyPost_ret (v := .tuple #[.agg (stC 3 a' b' c' 0 v' (.slice A' n' c2')), .bool RB]) (by simp [results, Tryd.results20, go_sem, q0, q1, q2, q3, q4, q5, q6]) rfl ?_
    refine ⟨3, a', b', c', 0, v', A', n', c2', by rw [← HRB.out], hbF, fun st h => ?_⟩
    obtain ⟨a, l, h1, rfl⟩ := HF.out.2 st h
    obtain ⟨e1, e2, e3, e4, e5, e6⟩ := HS3.out a l h1
    refine ⟨l, by rw [e1, e2, e3, e4], e5, ?_⟩
    rw [HWF.out]
    exact ((((((((e6.set (by omega) 0 _).set (by omega) 1 _).set (by omega) 2 _).set (by omega) 3 _).set (by omega) 4 _).set (by omega) 5 _).set (by omega) 6 _).mono (by omega))
  · have hz : (n = 0) = False := eq_false (by omega)
    have hz2 : (n + 1 = 1) = False := eq_false (by omega)
    have hz3 : (1 : Int) ≤ ((n + 1 : Nat) : Int) := by omega
    obtain rfl := hA1.2 (by omega)
    clear hA1
    go_enter Tryd.func20, Tryd.ntmps20
    go_wp2_with fail
    rw [← hW3]
    -- STOP-k31
    refine (HA.out _ (by omega)).mono ?_
    rintro e w3 ⟨rfl, hg3, a', b', c', v', A', n', c2', hx3, hs3'⟩
    have HX3 := hid hx3
    have HY3 := hid (HY2'.out.grown' hg3 (eq_false (fun e => by injection e with e; omega)))
    have HS3 := hid hs3'
    have hg : Below w.heap.size w w3 := Below.grown HB3.out hg3 HB3.out.size (fun g e => by injection e with e; omega)
    clear hx3 hg3 hs3'
    obtain ⟨cHX3, fHX3, sHX3, nHX3⟩ := HX3.out.all
    try simp only [cbox] at cHX3
    obtain ⟨cHY3, fHY3, sHY3, nHY3⟩ := HY3.out.all
    try simp only [cbox] at cHY3
    go_wp2_with fail
    obtain ⟨wF, hwF⟩ : ∃ q, q = qset7 w3 w.heap.size (.int .i64 3) (.int .i64 a') (.int .i64 b') (.int .i64 c') (.int .i64 0) (.int .i64 v') (.slice A' n' c2') := ⟨_, rfl⟩
    have HYF : Blk wF w.heap.size (stC 3 a' b' c' 0 v' (.slice A' n' c2')) 40 := by rw [hwF]; exact Blk.qset7 HY3.out _ _ _ _ _ _ _
    have hbF : Below w.heap.size w wF := by
      rw [hwF]
      simp only [qset7]
      (repeat' (first | (with_reducible exact Below.refl _ _) | (with_reducible assumption) | (with_reducible refine below_drewN ?_ _) | (with_reducible refine Below.drew ?_) | (with_reducible refine Below.alloc ?_ ?_ _) | (with_reducible refine Below.setCell ?_ ?_ _) | (refine Below.trans ?_ (Below.mono (by assumption) ?_)) | go_size))
    have HWF := hid hwF
    simp only [qset7] at hwF
    rw [← hwF]
    have q0 := HYF.cells.1 0
    have q1 := HYF.cells.1 1
    have q2 := HYF.cells.1 2
    have q3 := HYF.cells.1 3
    have q4 := HYF.cells.1 4
    have q5 := HYF.cells.1 5
    have q6 := HYF.cells.1 6
    simp [stC] at q0 q1 q2 q3 q4 q5 q6
    clear hwF HYF hg
    refine bodyPost_ret (v := .tuple #[.agg (stC 3 a' b' c' 0 v' (.slice A' n' c2')), .bool RB]) (by simp [results, Tryd.results20, go_sem, q0, q1, q2, q3, q4, q5, q6]) rfl ?_
    refine ⟨3, a', b', c', 0, v', A', n', c2', by rw [← HRB.out], hbF, fun st h => ?_⟩
    obtain ⟨a, l, h1, rfl⟩ := HF.out.2 st h
    obtain ⟨e1, e2, e3, e4, e5, e6⟩ := HS3.out a l h1
    refine ⟨l, by rw [e1, e2, e3, e4], e5, ?_⟩
    rw [HWF.out]
    exact ((((((((e6.set (by omega) 0 _).set (by omega) 1 _).set (by omega) 2 _).set (by omega) 3 _).set (by omega) 4 _).set (by omega) 5 _).set (by omega) 6 _).mono (by omega))
set_option maxHeartbeats 4000000 in
set_option maxRecDepth 100000 in
theorem qstep_k0 (v : List UInt8) (r : List (List UInt8)) (n ba oa : Nat) (w : World) (hn : r.length = n) (hw : WordsAt w w.heap.size (some ⟨ba, oa, none⟩) (v :: r)) (hl2 : n ≤ 1999) (hm : MaxAt w) (hv : kindR v = 0 ∧ v ≠ verbB 1 ∧ v ≠ verbB 2 ∧ v ≠ verbB 3 ∧ v ≠ verbB 4 ∧ v ≠ verbB 5 ∧ v ≠ verbB 6 ∧ v ≠ verbB 7 ∧ v ≠ verbB 8 ∧ v ≠ verbB 9) :
    Calls Tryd.prog 20 #[.slice (some ⟨ba, oa, none⟩) (n + 1) (n + 1)] w (StepPost (v :: r) w) := by
  have HW := hid hw
  have HM := hid hm
  clear hw hm
  have hcv : ba < w.heap.size ∧ w.cell? ⟨ba, oa, none⟩ = some (.string (bstr v)) := by
    rcases HW.out.2 with e | ⟨ba', oa', e, h2, h3, h4⟩
    · cases e
    · obtain ⟨rfl, rfl, -⟩ := Addr.mk.inj (Option.some.inj e)
      exact ⟨h3, h4 0 v rfl⟩
  obtain ⟨hbw, hcv⟩ := hcv
  obtain ⟨BV, hBV⟩ : ∃ q, q = bstr v := ⟨_, rfl⟩
  rw [← hBV] at hcv
  have HBV := hid hBV
  clear hBV
  obtain ⟨W2, hW2⟩ : ∃ q, q = (w.alloc (.cells (stC 0 0 0 0 0 0 (.slice none 0 0)) 40)).alloc (.cells (stC 0 0 0 0 0 0 (.slice none 0 0)) 40) := ⟨_, rfl⟩
  have hb2 : Below w.heap.size w W2 := by rw [hW2]; exact ((Below.refl _ _).alloc (Nat.le_refl _) _).alloc (by simp) _
  have HB2 := hid hb2
  have HX2 := hid (show Blk W2 (w.heap.size + 1) (stC 0 0 0 0 0 0 (.slice none 0 0)) 40 by rw [hW2]; exact Blk.new' _ _ _ (by simp))
  have HY2 := hid (show Blk W2 w.heap.size (stC 0 0 0 0 0 0 (.slice none 0 0)) 40 by rw [hW2]; exact (Blk.new _ _ _).alloc _)
  have hs2 : W2.heap.size = w.heap.size + 1 + 1 := by rw [hW2]; simp
  clear hb2
  -- the words behind the first
  obtain ⟨A1, c1, hA1⟩ : ∃ (A1 : Addr) (c1 : Nat), (n = 0 → A1 = ⟨ba, oa, none⟩) ∧ (n ≠ 0 → A1 = ⟨ba, oa + 1, none⟩) := by
    by_cases q : n = 0
    · exact ⟨_, 0, fun _ => rfl, fun h => absurd q h⟩
    · exact ⟨_, 0, fun h => absurd h q, fun _ => rfl⟩
  have HT := hid (show ∀ b, ba ≠ b → WordsAt w b (some A1) r from fun b hb => by
    by_cases q : n = 0
    · have : r = [] := List.length_eq_zero_iff.1 (hn.trans q)
      rw [this]; exact ⟨fun l hl => (by cases hl), .inl rfl⟩
    · rw [hA1.2 q]
      have h0 : WordsAt w b (some ⟨ba, oa, none⟩) (v :: r) := ⟨HW.out.1, HW.out.2.imp id fun ⟨ba', oa', h1, h2, h3, h4⟩ => ⟨ba', oa', h1, by
        obtain ⟨rfl, rfl, -⟩ := Addr.mk.inj (Option.some.inj h1)
        exact hb, h3, h4⟩⟩
      exact h0.tail)
  have HWD := hid (HT.out (w.heap.size + 1) (by omega))
  have HV := hid hv
  have HF := hid (step_nil (r := r) hv.1)
  clear hv
  have e1 : (BV.toList == [116, 97, 98, 108, 101]) = false := bsq_eqLF HBV.out HV.out.2.1
  have e2 : (BV.toList == [119, 104, 101, 114, 101]) = false := bsq_eqLF HBV.out HV.out.2.2.1
  have e3 : (BV.toList == [112, 105, 99, 107]) = false := bsq_eqLF HBV.out HV.out.2.2.2.1
  have e4 : (BV.toList == [106, 111, 105, 110]) = false := bsq_eqLF HBV.out HV.out.2.2.2.2.1
  have e5 : (BV.toList == [117, 110, 105, 111, 110]) = false := bsq_eqLF HBV.out HV.out.2.2.2.2.2.1
  have e6 : (BV.toList == [109, 105, 110, 117, 115]) = false := bsq_eqLF HBV.out HV.out.2.2.2.2.2.2.1
  have e7 : (BV.toList == [100, 105, 115, 116, 105, 110, 99, 116]) = false := bsq_eqLF HBV.out HV.out.2.2.2.2.2.2.2.1
  have e8 : (BV.toList == [99, 111, 117, 110, 116]) = false := bsq_eqLF HBV.out HV.out.2.2.2.2.2.2.2.2.1
  have e9 : (BV.toList == [115, 117, 109]) = false := bsq_eqLF HBV.out HV.out.2.2.2.2.2.2.2.2.2
  rcases Nat.eq_zero_or_pos n with h0 | h0
  · obtain rfl := hA1.1 h0
    subst h0
    clear hA1
    go_enter Tryd.func20, Tryd.ntmps20
    go_wp2_with fail
    -- STOP-k00
    rw [← hW2]
    have q0 := HY2.out.cells.1 0
    have q1 := HY2.out.cells.1 1
    have q2 := HY2.out.cells.1 2
    have q3 := HY2.out.cells.1 3
    have q4 := HY2.out.cells.1 4
    have q5 := HY2.out.cells.1 5
    have q6 := HY2.out.cells.1 6
    simp [stC] at q0 q1 q2 q3 q4 q5 q6
    exact bodyPost_ret (v := .tuple #[.agg (stC 0 0 0 0 0 0 (.slice none 0 0)), .bool false]) (by simp [results, Tryd.results20, go_sem, q0, q1, q2, q3, q4, q5, q6]) rfl ⟨0, 0, 0, 0, 0, 0, none, 0, 0, by rw [HF.out]; rfl, HB2.out, fun st h => by rw [HF.out] at h; cases h⟩
  · have hz : (n = 0) = False := eq_false (by omega)
    have hz2 : (n + 1 = 1) = False := eq_false (by omega)
    have hz3 : (1 : Int) ≤ ((n + 1 : Nat) : Int) := by omega
    obtain rfl := hA1.2 (by omega)
    clear hA1
    go_enter Tryd.func20, Tryd.ntmps20
    go_wp2_with fail
    -- STOP-k01
    rw [← hW2]
    have q0 := HY2.out.cells.1 0
    have q1 := HY2.out.cells.1 1
    have q2 := HY2.out.cells.1 2
    have q3 := HY2.out.cells.1 3
    have q4 := HY2.out.cells.1 4
    have q5 := HY2.out.cells.1 5
    have q6 := HY2.out.cells.1 6
    simp [stC] at q0 q1 q2 q3 q4 q5 q6
    exact bodyPost_ret (v := .tuple #[.agg (stC 0 0 0 0 0 0 (.slice none 0 0)), .bool false]) (by simp [results, Tryd.results20, go_sem, q0, q1, q2, q3, q4, q5, q6]) rfl ⟨0, 0, 0, 0, 0, 0, none, 0, 0, by rw [HF.out]; rfl, HB2.out, fun st h => by rw [HF.out] at h; cases h⟩
theorem qstep_any (v : List UInt8) (r : List (List UInt8)) (n ba oa : Nat) (w : World) (hn : r.length = n) (hw : WordsAt w w.heap.size (some ⟨ba, oa, none⟩) (v :: r)) (hl2 : n ≤ 1999) (hm : MaxAt w) :
    Calls Tryd.prog 20 #[.slice (some ⟨ba, oa, none⟩) (n + 1) (n + 1)] w (StepPost (v :: r) w) := by
  rcases kindR_out v with h | h | h | h | h | h | h | h | h | h
  · exact qstep_k1 v r n ba oa w hn hw hl2 hm h.2
  · exact qstep_k2 v r n ba oa w hn hw hl2 hm h.2
  · exact qstep_k3 v r n ba oa w hn hw hl2 hm h.2 hm.lt
  · exact qstep_k4 v r n ba oa w hn hw hl2 hm h.2
  · exact qstep_k5 v r n ba oa w hn hw hl2 hm h.2
  · exact qstep_k6 v r n ba oa w hn hw hl2 hm h.2
  · exact qstep_k7 v r n ba oa w hn hw hl2 hm h.2
  · exact qstep_k8 v r n ba oa w hn hw hl2 hm h.2
  · exact qstep_k9 v r n ba oa w hn hw hl2 hm h.2
  · exact qstep_k0 v r n ba oa w hn hw hl2 hm h
end Go.Proofs.YtamlaeocojcgdaaDoor
/- query.Parse. -/
namespace Go.Proofs.YtamlaeocojcgdaaDoor
set_option linter.unusedVariables false
set_option linter.unusedSimpArgs false
open Go.ChangeShapes Go.WideShapes Go.ChangeAt Go.RowKit

/-- A step's list lies in a block apart from g. -/
def SnOk (w : World) (g : Option Nat) (x : SR) : Prop := x.st.list.length ≤ 2001 ∧ (x.st.list = [] ∨ ∃ b off, x.A = some ⟨b, off, none⟩ ∧ b < w.heap.size ∧ some b ≠ g ∧ ∀ j u, (icells' x.st.list)[j]? = some u → w.cell? ⟨b, off + j, none⟩ = some u)
def Sn (w : World) (g : Option Nat) (M : List SR) : Prop := ∀ x ∈ M, SnOk w g x
theorem Sn.nil (w : World) (g : Option Nat) : Sn w g [] := fun x hx => by cases hx
theorem SnOk.step {w w' : World} {g : Option Nat} {x : SR} (h : SnOk w g x) (hb : Below w.heap.size w w') : SnOk w' g x :=
  ⟨h.1, h.2.imp id fun ⟨b, off, h1, h2, h3, h4⟩ => ⟨b, off, h1, Nat.lt_of_lt_of_le h2 hb.size, h3, fun j u hu => ((bcell hb).1 _ _ h2).trans (h4 j u hu)⟩⟩
theorem Sn.step {w w' : World} {g : Option Nat} {M : List SR} (h : Sn w g M) (hb : Below w.heap.size w w') : Sn w' g M := fun x hx => (h x hx).step hb
theorem SnOk.grown {w w' : World} {g g' : Option Nat} {x : SR} (h : SnOk w g x) (hg : w.grownBy w' g) (hv : g' = g ∨ g' = some w.heap.size) : SnOk w' g' x :=
  ⟨h.1, h.2.imp id fun ⟨b, off, h1, h2, h3, h4⟩ => ⟨b, off, h1, Nat.lt_of_lt_of_le h2 hg.size, by
    rcases hv with rfl | rfl
    · exact h3
    · intro e; injection e with e; omega, fun j u hu => (World.cell?_of_block (w := w) (hg.block b h2 h3)).trans (h4 j u hu)⟩⟩
theorem Sn.grown {w w' : World} {g g' : Option Nat} {M : List SR} (h : Sn w g M) (hg : w.grownBy w' g) (hv : g' = g ∨ g' = some w.heap.size) : Sn w' g' M := fun x hx => (h x hx).grown hg hv
theorem Sn.snoc {w : World} {g : Option Nat} {M : List SR} (h : Sn w g M) {x : SR} (hx : SnOk w g x) : Sn w g (M ++ [x]) := fun y hy => by
  rcases List.mem_append.1 hy with e | e
  · exact h y e
  · rw [List.mem_singleton.1 e]; exact hx
theorem Sn.rows {w : World} {g : Option Nat} {M : List SR} (h : Sn w g M) : StepsAt w w.heap.size M := fun x hx => by
  obtain ⟨h1, h2⟩ := h x hx
  refine ⟨?_, by omega⟩
  rcases h2 with e | ⟨b, off, h3, h4, -, h5⟩
  · rw [e]; exact Row.nil
  · exact .inr ⟨b, off, h3, h4, h5⟩
/-- A list of a step's own making. -/
theorem SnOk.new {w : World} {lo : Nat} {g : Option Nat} {x : SR} (h : NewInts w lo x.A x.st.list) (hl : x.st.list.length ≤ 2001) (hg : ∀ k, g = some k → k < lo) : SnOk w g x := by
  refine ⟨hl, ?_⟩
  rcases h.1 with e | ⟨b, off, h1, h2, h3⟩
  · left; exact List.map_eq_nil_iff.1 e
  · exact .inr ⟨b, off, h1, h2, fun e => by have := h.2 b off none h1; have := hg b e.symm; omega, h3⟩
theorem mkR_list {k p : Int} {l ns : List Int} {st : St} (h : mkR k p l ns = some st) : st.list = l := by
  match ns with
  | [] => simp [mkR] at h
  | [a] =>
    simp only [mkR] at h
    split at h
    · simp at h; rw [← h]
    · simp at h
  | [a, b] =>
    simp only [mkR] at h
    split at h
    · simp at h; rw [← h]
    · split at h
      · simp at h; rw [← h]
      · simp at h
  | [a, b, c] =>
    simp only [mkR] at h
    split at h
    · simp at h; rw [← h]
    · simp at h
  | [a, b, c, d] =>
    simp only [mkR] at h
    split at h
    · simp at h; rw [← h]
    · simp at h
  | a :: b :: c :: d :: e :: t => simp [mkR] at h
theorem stepR_list {v : List UInt8} {r : List (List UInt8)} {st : St} (h : stepR (v :: r) = some st) (hl : ∀ l ∈ r, l.length ≤ 2000) : st.list.length ≤ 2001 := by
  by_cases h2 : kindR v = 2
  · obtain ⟨p, a, c, d, -, rfl⟩ := (step_where h2).2 st h
    simp
  · by_cases h3 : kindR v = 3
    · obtain ⟨a, l, h4, rfl⟩ := (step_pick h3).2 st h
      match r, h4, hl with
      | [x, y], h4, hl =>
        simp only [pickW] at h4
        cases hx : numR x with
        | none => rw [hx] at h4; simp at h4
        | some a' =>
          cases hn : numsR (pcs 44 y) with
          | none => rw [hx, hn] at h4; simp at h4
          | some l' =>
            rw [hx, hn] at h4
            simp at h4
            have e1 := numsR_len hn
            have e2 := (pcs_len 44 y).1
            have e3 := hl y (by simp)
            rw [h4.2] at e1
            show l.length ≤ 2001
            omega
    · have e : stepR (v :: r) = match numsR r with
          | some ns => mkR (kindR v) 0 [] ns
          | none => none := by
        show (if kindR v = 2 then _ else if kindR v = 3 then _ else _) = _
        rw [if_neg h2, if_neg h3]
        cases numsR r <;> rfl
      rw [e] at h
      cases hn : numsR r with
      | none => rw [hn] at h; cases h
      | some ns => rw [hn] at h; rw [mkR_list h]; simp
/-- What Parse answers. -/
def ParsePost (D : List UInt8) (w : World) (e : Ending) (w' : World) : Prop :=
  ∃ (A : Option Addr) (c : Nat) (M : List SR), e = .returned (.tuple #[.slice A M.length c, .int .i64 (parseR D).2.1, .int .i64 (parseR D).2.2]) ∧ sts M = (parseR D).1 ∧ M.length ≤ 2001 ∧ RowS w' w'.heap.size A M ∧ Below w.heap.size w w'
/-- What is read of lines when some have been read. -/
def linesOn (q : List St) : Sum Int (List St) → Sum Int (List St)
  | .inl k => .inl k
  | .inr l => .inr (q ++ l)
theorem lines_bad {D : List UInt8} {n : Int} (h : 10 ∉ D) (hne : D ≠ []) : linesR (pcs 10 D) n = .inl n := by
  rw [pcs_nosep h, linesR, if_neg hne]
theorem lines_end (n : Int) : linesR (pcs 10 []) n = .inr [] := by rw [show pcs 10 [] = [[]] from rfl, linesR, if_pos rfl]
theorem lines_next {a b : List UInt8} {n : Int} (h : 10 ∉ a) : linesR (pcs 10 (a ++ 10 :: b)) n = match stepR (pcs 32 a) with
    | none => .inl n
    | some s => linesOn [s] (linesR (pcs 10 b) (n + 1)) := by
  obtain ⟨p, r, e⟩ := pcs_ex 10 b
  rw [pcs_first h, e, linesR]
  cases stepR (pcs 32 a) with
  | none => rfl
  | some s => cases linesR (p :: r) (n + 1) <;> rfl
theorem linesOn_nil (x : Sum Int (List St)) : linesOn [] x = x := by cases x <;> rfl
theorem linesOn_on (q : List St) (s : St) (x : Sum Int (List St)) : linesOn q (linesOn [s] x) = linesOn (q ++ [s]) x := by
  cases x <;> simp [linesOn]

theorem elem_qst : Elem Tryd.prog 22 40 7 72 := ⟨Tryd.underlying22, by
  obtain ⟨i, hi, hz, hs, hb⟩ := info_parts (P := Tryd.prog) (e := 40) (z := .agg #[.int .i64 0, .int .i64 0, .int .i64 0, .int .i64 0, .int .i64 0, .int .i64 0, .slice none 0 0]) (size := 7) (bytes := 72) (by kernel_rfl)
  exact ⟨i, _, hi, hz, hs, hb, rfl⟩, by decide⟩
theorem qscells_snoc (L : List SR) (x : SR) : scells (L ++ [x]) = scells L ++ x.cells := by rw [scells, List.flatMap_append]; simp
/-- The length of a string. -/
def strSz : Value → Nat
  | .string b => b.size
  | _ => 0
set_option maxHeartbeats 8000000 in
set_option maxRecDepth 100000 in
theorem qparse_any (D : List UInt8) (w : World) (hm : MaxAt w) (hD : D.length ≤ 9223372036854775807) :
    Calls Tryd.prog 13 #[.string (bstr D)] w (ParsePost D w) := by
  have HM := hid hm
  clear hm
  have hsz := bstr_size D
  by_cases hl : 1024 < D.length
  · have t0 : (1024 < (D.length : Int)) = True := eq_true (by omega)
    have HP := hid (show parseR D = ([], 0, 2) by rw [parseR, if_pos hl])
    clear hl
    go_enter Tryd.func13, Tryd.ntmps13
    go_wp2_with fail
    go_ret3
    exact ⟨none, 0, [], (by first | (rw [HP.out]; done) | (rw [HP.out]; rfl)), (by first | (rw [HP.out]; done) | (rw [HP.out]; rfl)), by simp, ⟨Row.nil, fun x hx => by cases hx⟩, Below.refl _ _⟩
  · have t0 : (1024 < (D.length : Int)) = False := eq_false (by omega)
    have HP := hid (show parseR D = match linesR (pcs 10 D) 1 with
      | .inl k => ([], k, 3)
      | .inr q => if queryE q = 0 then (q, 0, 0) else ([], 0, queryE q) by
        rw [parseR, if_neg hl]
        cases linesR (pcs 10 D) 1 <;> rfl)
    have HDL := hid (show D.length ≤ 1024 by omega)
    clear hl
    go_enter Tryd.func13, Tryd.ntmps13
    go_wp2_with fail
    -- STOP-a
    go_loopw [0, 5, 6] (fun s0 s5 s6 wr => ∃ (D' : List UInt8) (M : List SR), s0 = .string (bstr D') ∧ s6 = .int .i64 ((M.length : Int) + 1) ∧ D'.length + M.length ≤ D.length ∧ Hid (wr.ownsRow w.heap.size 40 7 s5 M.length (scells M)) ∧ Hid (Sn wr s5.ownBlock M) ∧
      Hid (linesR (pcs 10 D) 1 = linesOn (sts M) (linesR (pcs 10 D') ((M.length : Int) + 1))) ∧ Hid (Below w.heap.size w wr)) (fun s0 _ _ _ => strSz s0)
    case atStart => exact ⟨D, [], rfl, rfl, by simp, hid (World.ownsRow_nil _ _ _ _), hid (Sn.nil _ _), hid (linesOn_nil _).symm, hid (Below.refl _ _)⟩
    case round =>
      obtain ⟨D', M, rfl, rfl, hlen, HO, HS, HL, HB⟩ := hrel
      obtain ⟨wo, rfl⟩ : ∃ q : World, q = wr := ⟨_, rfl⟩
      obtain ⟨A5, c5, rfl⟩ := own_formS HO.out
      have hD' : D'.length ≤ 1024 := by have := HDL.out; omega
      have hM' : M.length ≤ 1024 := by have := HDL.out; omega
      by_cases hnil : D' = []
      · subst hnil
        have tn : ((bstr []).toList == []) = true := bsq_eqLT rfl rfl
        -- STOP-b
        have HR := hid (show RowS wo wo.heap.size A5 M from ⟨Row.of_ownS HO.out, HS.out.rows⟩)
        have HC := hid (qcheck_any M A5 c5 wo HR.out (by omega))
        have HP2 := hid (show parseR D = if queryE (sts M) = 0 then (sts M, 0, 0) else ([], 0, queryE (sts M)) by
          rw [HP.out, HL.out, lines_end]
          simp [linesOn])
        obtain ⟨E, hE⟩ : ∃ q, q = queryE (sts M) := ⟨_, rfl⟩
        rw [← hE] at HC HP2
        clear hE
        go_wp2_with fail
        refine HC.out.mono ?_
        rintro e w2 ⟨rfl, hb2⟩
        have HB2 := hid hb2
        clear hb2 HC
        by_cases he : E = 0
        · have te : (E != 0) = false := by rw [he]; rfl
          rw [if_pos he] at HP2
          clear he
          go_wp2_with fail
          -- STOP-c
          go_ret3
          exact ⟨A5, c5, M, (by first | (rw [HP2.out]; done) | (rw [HP2.out]; rfl)), (by first | (rw [HP2.out]; done) | (rw [HP2.out]; rfl)), by omega, HR.out.step HB2.out, Below.step' HB.out HB2.out⟩
        · have te : (E != 0) = true := bne_iff_ne.2 he
          rw [if_neg he] at HP2
          clear he
          go_wp2_with fail
          -- STOP-d
          go_ret3
          exact ⟨none, 0, [], (by first | (rw [HP2.out]; done) | (rw [HP2.out]; rfl)), (by first | (rw [HP2.out]; done) | (rw [HP2.out]; rfl)), by simp, ⟨Row.nil, fun x hx => by cases hx⟩, Below.step' HB.out HB2.out⟩
      · have tn : ((bstr D').toList == []) = false := bsq_eqLF rfl hnil
        obtain ⟨X, R, wh, hcut, hXl, hRl, HW1, HW2⟩ : ∃ X R wh, Lib.cut D' [10] = (X, R, wh) ∧ X.length ≤ D'.length ∧ (wh = true → R.length < D'.length) ∧ Hid (wh = false → ∀ n, linesR (pcs 10 D') n = .inl n) ∧
            Hid (wh = true → ∀ n, linesR (pcs 10 D') n = match stepR (pcs 32 X) with
              | none => .inl n
              | some s => linesOn [s] (linesR (pcs 10 R) (n + 1))) := by
          rcases sep_or 10 D' with h | ⟨a, b, h, e⟩
          · exact ⟨D', [], false, cut_miss h, Nat.le_refl _, fun h => (by cases h), hid (fun _ n => lines_bad h hnil), hid (fun h => by cases h)⟩
          · subst e
            exact ⟨a, b, true, cut_hit h, by simp, fun _ => by simp; omega, hid (fun h => by cases h), hid (fun _ n => lines_next h)⟩
        have HC := hid (cut_any D' 10 (by omega) wo (HM.out.step HB.out))
        rw [hcut] at HC
        obtain ⟨v, r, hvr⟩ := pcs_ex 32 X
        have hpl := pcs_len 32 X
        have HVR := hid hvr
        have HPL := hid (show ∀ l ∈ v :: r, l.length ≤ 2000 from fun l h => by rw [← hvr] at h; have := hpl.2 l h; omega)
        have hnr : r.length ≤ 1999 := by have h1 := hpl.1; rw [hvr, List.length_cons] at h1; omega
        have HSP := hid (fun (w1 : World) (hb : Below wo.heap.size wo w1) => split_any X 32 (by omega) w1 (HM.out.step (Below.step' HB.out hb)))
        rw [hvr] at HSP
        obtain ⟨n, hn⟩ : ∃ n, n = r.length := ⟨_, rfl⟩
        have hn1 : (v :: r).length = n + 1 := by rw [hn]; rfl
        rw [hn1] at HSP
        rw [← hn] at hnr
        have HN := hid hn
        obtain ⟨BS, hBS⟩ : ∃ q, q = bstr D' := ⟨_, rfl⟩
        obtain ⟨BX, hBX⟩ : ∃ q, q = bstr X := ⟨_, rfl⟩
        obtain ⟨BR, hBR⟩ : ∃ q, q = bstr R := ⟨_, rfl⟩
        simp only [← hBX, ← hBR] at HC
        rw [← hBS] at HC tn ⊢
        rw [← hBX] at HSP
        have HBR := hid hBR
        have HSZ := hid (show strSz (.string BS) = D'.length by rw [hBS]; rfl)
        clear hcut hvr hpl hn hn1 hBS hBX hBR hnil
        go_wp2_with fail
        -- STOP-e
        refine HC.out.mono ?_
        rintro e w1 ⟨rfl, nq, hw1⟩
        have HB1 := hid (show Below wo.heap.size wo w1 by rw [hw1]; exact below_drewN (Below.refl _ _) _)
        clear hw1 HC
        go_wp2_with fail
        -- STOP-f
        refine (HSP.out _ HB1.out).mono ?_
        rintro e w2 ⟨rfl, hw2⟩
        have HB2 := hid (show Below wo.heap.size wo w2 by rw [hw2]; exact alloc_below HB1.out _)
        have HST := hid (qstep_any v r n w1.heap.size 0 w2 HN.out.symm (WordsAt.new (T := 9) (by rw [hw2]; exact Blk.new _ _ _) (by rw [hw2]; simp) HPL.out) hnr (HM.out.step (Below.step' HB.out HB2.out)))
        clear hw2 HSP HB1
        go_wp2_with fail
        -- STOP-g
        refine HST.out.mono ?_
        rintro e w3 ⟨k, a, b, c, p, v', lA, ln, lc, rfl, hb3, hst⟩
        have HB3 := hid (Below.step' HB2.out hb3)
        have hlo : wo.heap.size ≤ w2.heap.size := HB2.out.size
        have HST3 := hid hst
        clear hb3 hst HST
        obtain ⟨ok, hok⟩ : ∃ q, q = (stepR (v :: r)).isSome := ⟨_, rfl⟩
        rw [← hok]
        have HOK := hid hok
        clear hok
        cases wh with
        | false =>
          have HP2 := hid (show parseR D = ([], (M.length : Int) + 1, 3) by rw [HP.out, HL.out, HW1.out rfl]; rfl)
          go_wp2_with fail
          -- STOP-h
          go_ret3
          exact ⟨none, 0, [], (by first | (rw [HP2.out]; done) | (rw [HP2.out]; rfl)), (by first | (rw [HP2.out]; done) | (rw [HP2.out]; rfl)), by simp, ⟨Row.nil, fun x hx => by cases hx⟩, (Below.step' HB.out HB3.out).alloc (Below.step' HB.out HB3.out).size _⟩
        | true =>
          cases ok with
          | false =>
            have hno : stepR (pcs 32 X) = none := by
              rw [HVR.out]
              cases h : stepR (v :: r) with
              | none => rfl
              | some s => have := HOK.out; rw [h] at this; cases this
            have HP2 := hid (show parseR D = ([], (M.length : Int) + 1, 3) by rw [HP.out, HL.out, HW2.out rfl, hno]; rfl)
            clear hno
            go_wp2_with fail
            -- STOP-i
            go_ret3
            exact ⟨none, 0, [], (by first | (rw [HP2.out]; done) | (rw [HP2.out]; rfl)), (by first | (rw [HP2.out]; done) | (rw [HP2.out]; rfl)), by simp, ⟨Row.nil, fun x hx => by cases hx⟩, (Below.step' HB.out HB3.out).alloc (Below.step' HB.out HB3.out).size _⟩
          | true =>
            obtain ⟨st, hst⟩ : ∃ st, stepR (v :: r) = some st := Option.isSome_iff_exists.1 HOK.out.symm
            obtain ⟨l, rfl, rfl, hni⟩ := HST3.out st hst
            have HNI := hid hni
            have hll := stepR_list hst (fun x hx => HPL.out x (by simp [hx]))
            have HLL := hid hll
            have HL2 := hid (show linesR (pcs 10 D) 1 = linesOn (sts M ++ [⟨k, a, b, c, p, v', l⟩]) (linesR (pcs 10 R) (((M.length + 1 : Nat) : Int) + 1)) by
              rw [HL.out, HW2.out rfl, HVR.out, hst, ← linesOn_on]
              rfl)
            have hRl' := hRl rfl
            clear hst hni hll HL hRl
            have w1 : IntKind.i64.wrap ((M.length : Int) + 1 + 1) = (M.length : Int) + 1 + 1 := IntWalk.i64_in _ (by omega)
            -- STOP-j
            obtain ⟨W4, hW4⟩ : ∃ q, q = w3.alloc (.cells (stC k a b c p v' (.slice lA l.length lc)) 40) := ⟨_, rfl⟩
            have HB34 := hid (show Below w3.heap.size w3 W4 by rw [hW4]; exact (Below.refl _ _).alloc (Nat.le_refl _) _)
            have HX4 := hid (show Blk W4 w3.heap.size (stC k a b c p v' (.slice lA l.length lc)) 40 by rw [hW4]; exact Blk.new _ _ _)
            have hs4 : w3.heap.size < W4.heap.size := HX4.out.lt
            have HO4 := hid (qown_step (qown_step HO.out HB3.out) HB34.out)
            have HS4 := hid ((HS.out.step HB3.out).step HB34.out)
            have HB4 := hid (Below.step' HB.out (Below.step' HB3.out HB34.out))
            have HSX := hid (SnOk.new (w := w3) (g := (Value.slice A5 M.length c5).ownBlock) (x := ⟨⟨k, a, b, c, p, v', l⟩, lA, lc⟩) HNI.out HLL.out (fun g e => by have := (HO.out.lt g e).2; omega))
            have hone : ∀ u ∈ (⟨⟨k, a, b, c, p, v', l⟩, lA, lc⟩ : SR).cells, u.oneCell' = true := by
              intro u hu
              simp only [SR.cells, List.mem_cons, List.not_mem_nil, or_false] at hu
              rcases hu with rfl | rfl | rfl | rfl | rfl | rfl | rfl <;> rfl
            go_upto_region 9 with fail
            -- STOP-k
            rw [← hW4]
            clear hW4
            obtain ⟨cHX4, fHX4, sHX4, nHX4⟩ := HX4.out.all
            try simp only [cbox] at cHX4
            go_wp2_with (at_builtin; refine wpList_append_row elem_qst rfl _ _ rfl w.heap.size _ _ _ rfl (HO4.out.alloc _) (some ⟨W4.heap.size, 0, none⟩) 1 1 (W4.heap.size + 1) (⟨⟨k, a, b, c, p, v', l⟩, lA, lc⟩ : SR).cells rfl rfl (by exact Row.new' W4 _ _ rfl rfl (Nat.lt_succ_self _)) hone ?_ ?_ ?_ ?_; rotate_right; intro v7 w7 hown7 hg7 hif7; obtain ⟨A7, c7, rfl⟩ := own_formS hown7; rotate_left; (simp only [maxLen]; omega); (omega); (have := HB4.out.size; simp; omega))
            -- STOP-l
            have HSN := hid (show Sn w7 (Value.slice A7 (M.length + 1) c7).ownBlock (M ++ [⟨⟨k, a, b, c, p, v', l⟩, lA, lc⟩]) from
              (((HS4.out.snoc (HSX.out.step HB34.out)).step ((Below.refl _ _).alloc (Nat.le_refl _) _)).grown hg7 hif7))
            have HOW := hid hown7
            have HB7 := hid (Below.grown (HB4.out.alloc HB4.out.size _) hg7 (HB4.out.alloc HB4.out.size _).size (fun g e => (HO4.out.lt g e).1))
            clear hown7 hg7 hif7
            go_roundw
            case rel =>
              refine ⟨R, M ++ [⟨⟨k, a, b, c, p, v', l⟩, lA, lc⟩], by rw [← HBR.out], by rw [List.length_append, List.length_singleton]; go_num, by rw [List.length_append, List.length_singleton]; omega, hid ?_, hid ?_, hid ?_, HB7⟩
              · rw [qscells_snoc, List.length_append, List.length_singleton]; exact HOW.out
              · exact HSN.out
              · rw [HL2.out]
                simp only [sts, List.map_append, List.map_cons, List.map_nil, List.length_append, List.length_singleton]
            case measure =>
              rw [HSZ.out]
              show strSz (.string BR) < _
              rw [HBR.out]
              exact hRl'
end Go.Proofs.YtamlaeocojcgdaaDoor
/- slices.Equal at int, EqualFunc at Item, viewref.SameSet. -/
namespace Go.Proofs.YtamlaeocojcgdaaDoor
set_option linter.unusedVariables false
set_option linter.unusedSimpArgs false
open Go.ChangeShapes Go.WideShapes Go.ChangeAt Go.RowKit

set_option maxHeartbeats 400000 in
set_option maxRecDepth 100000 in
theorem equalN_any (l m : List Int) (A B : Option Addr) (c e : Nat) (w : World) (hr : Row w w.heap.size A (icells' l)) (hs : Row w w.heap.size B (icells' m)) (hl : l.length ≤ 9223372036854775807) (hm : m.length ≤ 9223372036854775807) :
    Calls Tryd.prog 26 #[.slice A l.length c, .slice B m.length e] w fun e w' => e = .returned (.bool (decide (l = m))) ∧ Below w.heap.size w w' := by
  have HR := hid hr
  have HS := hid hs
  clear hr hs
  by_cases hlen : l.length = m.length
  · have hne : ((l.length : Int) != (m.length : Int)) = false := by simp [hlen]
    have HL := hid hlen
    clear hlen
    go_enter Tryd.func26, Tryd.ntmps26
    go_wp2
    go_loopw [13] (fun i wr => (∃ k : Nat, k ≤ l.length ∧ i = .int .i64 k ∧ ∀ j (h : j < l.length) (h' : j < m.length), j < k → l[j] = m[j]) ∧ Below w.heap.size w wr) (fun i _ => l.length - (intOf i).toNat)
    case atStart => exact ⟨⟨0, by omega, rfl, fun j _ _ h => absurd h (by omega)⟩, Below.refl _ _⟩
    case round =>
      obtain ⟨⟨k, hk, rfl, hno⟩, hbw⟩ := hrel
      by_cases hlt : k < l.length
      · have hlt' : k < m.length := by have := HL.out; omega
        obtain ⟨b, off, rfl, hb, h0⟩ := (HR.out.below hbw (Nat.le_refl _)).int' hlt
        obtain ⟨b', off', rfl, hb', h0'⟩ := (HS.out.below hbw (Nat.le_refl _)).int' hlt'
        have HN := hid hno
        have HB := hid hbw
        clear hno hbw
        generalize hd : l[k] = d at *
        generalize hd' : m[k] = d' at *
        have HD := hid hd
        have HD' := hid hd'
        clear hd hd'
        by_cases hq : d = d'
        · have q : (d != d') = false := by simp [hq]
          have HQ := hid hq
          clear hq
          go_wp2
          refine wp_region_quiet_lit (by kernel_rfl) (by kernel_rfl) ?_
          repeat (any_goals ((with_reducible refine wpQuiet_step (fun K hK => ?_)); go_simp; first | (with_reducible refine hK _ ?_; clear hK K) | ((with_reducible apply Exists.intro); (with_reducible refine ⟨fun _ => ?_, hK _ ?_⟩); (fail); clear hK K) | ((with_reducible refine (if_neg ?_).mpr (hK _ ?_)); (decide); clear hK K) | (split <;> (with_reducible refine hK _ ?_; clear hK K))))
          all_goals ((with_reducible refine wpQuiet_nil ?_); intro _ hw'; obtain ⟨nq, hw''⟩ := hw'; subst hw'')
          go_wp2
          go_roundw
          case rel =>
            refine ⟨⟨k + 1, by omega, by go_num, fun j h h' hj => ?_⟩, below_drewN HB.out _⟩
            by_cases e : j = k
            · subst e; rw [HD.out, HD'.out]; exact HQ.out
            · exact HN.out j h h' (by omega)
          case measure => simp [intOf]; omega
        · have q : (d != d') = true := by simp [hq]
          have HQ := hid hq
          clear hq
          go_wp2
          refine wp_region_quiet_lit (by kernel_rfl) (by kernel_rfl) ?_
          repeat (any_goals ((with_reducible refine wpQuiet_step (fun K hK => ?_)); go_simp; first | (with_reducible refine hK _ ?_; clear hK K) | ((with_reducible apply Exists.intro); (with_reducible refine ⟨fun _ => ?_, hK _ ?_⟩); (fail); clear hK K) | ((with_reducible refine (if_neg ?_).mpr (hK _ ?_)); (decide); clear hK K) | (split <;> (with_reducible refine hK _ ?_; clear hK K))))
          all_goals ((with_reducible refine wpQuiet_nil ?_); intro _ hw'; obtain ⟨nq, hw''⟩ := hw'; subst hw'')
          go_wp2
          go_ret
          refine ⟨ret_bool ?_, below_drewN HB.out _⟩
          symm
          rw [decide_eq_false_iff_not]
          rintro rfl
          exact HQ.out (HD.out.symm.trans HD'.out)
      · go_wp2
        go_ret
        refine ⟨ret_bool ?_, hbw⟩
        have : l = m := List.ext_getElem HL.out fun j h h' => hno j h h' (by omega)
        simp [this]
  · have hne : ((l.length : Int) != (m.length : Int)) = true := by simp; omega
    go_enter Tryd.func26, Tryd.ntmps26
    go_wp2
    go_ret
    exact ⟨ret_bool (by symm; simp; rintro rfl; exact hlen rfl), Below.refl _ _⟩


end Go.Proofs.YtamlaeocojcgdaaDoor
