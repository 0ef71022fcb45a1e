/- QrF -/
import Derived.Test.YtamlaeocojcgdaaDoorQueryBackCardS07
/- query.step. -/
namespace Go.Proofs.YtamlaeocojcgdaaDoor
set_option linter.unusedVariables false
set_option linter.unusedSimpArgs false
open Go.ChangeShapes Go.WideShapes Go.ChangeAt Go.RowKit

def StepPost (ws : List (List UInt8)) (w : World) (e : Ending) (w' : World) : Prop :=
  ∃ k a b c p v A n cp, e = .returned (.tuple #[.agg (stC k a b c p v (.slice A n cp)), .bool (stepR ws).isSome]) ∧ Below w.heap.size w w' ∧
    ∀ st, stepR ws = some st → ∃ l, st = ⟨k, a, b, c, p, v, l⟩ ∧ n = l.length ∧ NewInts w' w.heap.size A l
theorem bsq_eqLT {A : ByteArray} {a l : List UInt8} (hA : A = bstr a) (h : a = l) : (A.toList == l) = true := by
  rw [hA, h, ByteArray.toList_eq]; exact beq_self_eq_true _
theorem bsq_eqLF {A : ByteArray} {a l : List UInt8} (hA : A = bstr a) (h : a ≠ l) : (A.toList == l) = false := by
  rw [hA, ByteArray.toList_eq]; exact beq_eq_false_iff_ne.2 h
theorem kindR_out (v : List UInt8) : (kindR v = 1 ∧ v = verbB 1) ∨ (kindR v = 2 ∧ v = verbB 2) ∨ (kindR v = 3 ∧ v = verbB 3) ∨ (kindR v = 4 ∧ v = verbB 4) ∨ (kindR v = 5 ∧ v = verbB 5) ∨ (kindR v = 6 ∧ v = verbB 6) ∨ (kindR v = 7 ∧ v = verbB 7) ∨ (kindR v = 8 ∧ v = verbB 8) ∨ (kindR v = 9 ∧ v = verbB 9) ∨ (kindR v = 0 ∧ v ≠ verbB 1 ∧ v ≠ verbB 2 ∧ v ≠ verbB 3 ∧ v ≠ verbB 4 ∧ v ≠ verbB 5 ∧ v ≠ verbB 6 ∧ v ≠ verbB 7 ∧ v ≠ verbB 8 ∧ v ≠ verbB 9) := by
  unfold kindR
  by_cases h1 : v = verbB 1
  · exact .inl ⟨by rw [if_pos h1], h1⟩
  by_cases h2 : v = verbB 2
  · exact .inr (.inl ⟨by rw [if_neg h1, if_pos h2], h2⟩)
  by_cases h3 : v = verbB 3
  · exact .inr (.inr (.inl ⟨by rw [if_neg h1, if_neg h2, if_pos h3], h3⟩))
  by_cases h4 : v = verbB 4
  · exact .inr (.inr (.inr (.inl ⟨by rw [if_neg h1, if_neg h2, if_neg h3, if_pos h4], h4⟩)))
  by_cases h5 : v = verbB 5
  · exact .inr (.inr (.inr (.inr (.inl ⟨by rw [if_neg h1, if_neg h2, if_neg h3, if_neg h4, if_pos h5], h5⟩))))
  by_cases h6 : v = verbB 6
  · exact .inr (.inr (.inr (.inr (.inr (.inl ⟨by rw [if_neg h1, if_neg h2, if_neg h3, if_neg h4, if_neg h5, if_pos h6], h6⟩)))))
  by_cases h7 : v = verbB 7
  · exact .inr (.inr (.inr (.inr (.inr (.inr (.inl ⟨by rw [if_neg h1, if_neg h2, if_neg h3, if_neg h4, if_neg h5, if_neg h6, if_pos h7], h7⟩))))))
  by_cases h8 : v = verbB 8
  · exact .inr (.inr (.inr (.inr (.inr (.inr (.inr (.inl ⟨by rw [if_neg h1, if_neg h2, if_neg h3, if_neg h4, if_neg h5, if_neg h6, if_neg h7, if_pos h8], h8⟩)))))))
  by_cases h9 : v = verbB 9
  · exact .inr (.inr (.inr (.inr (.inr (.inr (.inr (.inr (.inl ⟨by rw [if_neg h1, if_neg h2, if_neg h3, if_neg h4, if_neg h5, if_neg h6, if_neg h7, if_neg h8, if_pos h9], h9⟩))))))))
  exact .inr (.inr (.inr (.inr (.inr (.inr (.inr (.inr (.inr (⟨by rw [if_neg h1, if_neg h2, if_neg h3, if_neg h4, if_neg h5, if_neg h6, if_neg h7, if_neg h8, if_neg h9], h1, h2, h3, h4, h5, h6, h7, h8, h9⟩)))))))))
/-- What the numbers of a line make, and what 'read' made of the box. -/
def osR (k : Int) : List Nat := if k = 4 then [1, 2, 3, 5] else if k = 5 ∨ k = 6 then [1, 2] else if k = 8 then [1, 3] else if k = 9 then [1, 3, 5] else [1]
theorem step_fin {v : List UInt8} {r : List (List UInt8)} {k : Int} (hk : kindR v = k) (hr : k = 1 ∨ k = 4 ∨ k = 5 ∨ k = 6 ∨ k = 7 ∨ k = 8 ∨ k = 9) :
    (stepR (v :: r)).isSome = (decide (r.length = (osR k).length) && (numsR r).isSome) ∧ ∀ st a' b' c' v', stepR (v :: r) = some st →
      (r.length = (osR k).length → ∀ ms, numsR r = some ms → setL (stC 0 0 0 0 0 0 (.slice none 0 0)) (osR k) ms = stC 0 a' b' c' 0 v' (.slice none 0 0)) → st = ⟨k, a', b', c', 0, v', []⟩ := by
  have e : stepR (v :: r) = match numsR r with
      | some ns => mkR k 0 [] ns
      | none => none := by
    show (if kindR v = 2 then _ else if kindR v = 3 then _ else _) = _
    rw [hk, if_neg (by omega), if_neg (by omega)]
    cases numsR r <;> rfl
  rw [e]
  cases hn : numsR r with
  | none => simp
  | some ms =>
    have hl := numsR_len hn
    rw [← hl]
    match ms with
    | [] => rcases hr with rfl | rfl | rfl | rfl | rfl | rfl | rfl <;> simp [mkR, osR]
    | [n1] => rcases hr with rfl | rfl | rfl | rfl | rfl | rfl | rfl <;> simp [mkR, osR, setL, stC] <;> (intros; simp_all)
    | [n1, n2] => rcases hr with rfl | rfl | rfl | rfl | rfl | rfl | rfl <;> simp [mkR, osR, setL, stC] <;> (intros; simp_all)
    | [n1, n2, n3] => rcases hr with rfl | rfl | rfl | rfl | rfl | rfl | rfl <;> simp [mkR, osR, setL, stC] <;> (intros; simp_all)
    | [n1, n2, n3, n4] => rcases hr with rfl | rfl | rfl | rfl | rfl | rfl | rfl <;> simp [mkR, osR, setL, stC] <;> (intros; simp_all)
    | n1 :: n2 :: n3 :: n4 :: n5 :: t =>
      have q : ∀ k : Int, ¬ (t.length + 1 + 1 + 1 + 1 + 1 = (osR k).length) := fun k => by
        unfold osR
        (repeat' split)
        all_goals simp
      simp [mkR, q]

abbrev qset7 (w : World) (b : Nat) (y0 y1 y2 y3 y4 y5 y6 : Value) : World := ((((((w.setCell ⟨b, 0, none⟩ y0).setCell ⟨b, 1, none⟩ y1).setCell ⟨b, 2, none⟩ y2).setCell ⟨b, 3, none⟩ y3).setCell ⟨b, 4, none⟩ y4).setCell ⟨b, 5, none⟩ y5).setCell ⟨b, 6, none⟩ y6
theorem Blk.qset7 {w : World} {b : Nat} {x0 x1 x2 x3 x4 x5 x6 : Value} {T : TypeId} (h : Blk w b #[x0, x1, x2, x3, x4, x5, x6] T) (y0 y1 y2 y3 y4 y5 y6 : Value) : Blk (qset7 w b y0 y1 y2 y3 y4 y5 y6) b #[y0, y1, y2, y3, y4, y5, y6] T :=
  (((((((h.set 0 y0).eq (ds := #[y0, x1, x2, x3, x4, x5, x6]) rfl).set 1 y1).eq (ds := #[y0, y1, x2, x3, x4, x5, x6]) rfl).set 2 y2).eq (ds := #[y0, y1, y2, x3, x4, x5, x6]) rfl).set 3 y3 |>.eq (ds := #[y0, y1, y2, y3, x4, x5, x6]) rfl |>.set 4 y4 |>.eq (ds := #[y0, y1, y2, y3, y4, x5, x6]) rfl |>.set 5 y5 |>.eq (ds := #[y0, y1, y2, y3, y4, y5, x6]) rfl |>.set 6 y6).eq rfl
theorem NewInts.set {w : World} {lo p : Nat} {A : Option Addr} {l : List Int} (h : NewInts w lo A l) (hp : p < lo) (o : Nat) (v : Value) : NewInts (w.setCell ⟨p, o, none⟩ v) lo A l := by
  refine ⟨?_, h.2⟩
  rcases h.1 with e | ⟨b, off, e, hb, hc⟩
  · rw [e]; exact Row.nil
  · have hlo := h.2 b off none e
    exact .inr ⟨b, off, e, by simpa using hb, fun j u hu => (World.cell?_setCell_other _ _ _ _ (fun e1 => by have := congrArg Addr.block e1; simp at this; omega)).trans (hc j u hu)⟩
theorem NewInts.mono {w : World} {lo lo' : Nat} {A : Option Addr} {l : List Int} (h : NewInts w lo A l) (hl : lo' ≤ lo) : NewInts w lo' A l := ⟨h.1, fun b off q e => Nat.le_trans hl (h.2 b off q e)⟩
theorem step_where {v : List UInt8} {r : List (List UInt8)} (hk : kindR v = 2) : (stepR (v :: r)).isSome = (whereR r).isSome ∧ ∀ st, stepR (v :: r) = some st → ∃ p a c d, whereR r = some (p, [a, c, d]) ∧ st = ⟨2, a, 0, c, p, d, []⟩ := by
  by_cases h4 : ∃ x y o z, r = [x, y, o, z]
  · obtain ⟨x, y, o, z, rfl⟩ := h4
    have e : stepR (v :: [x, y, o, z]) = match signR o, numsR [x, y, z] with
        | some p, some ns => mkR 2 p [] ns
        | _, _ => none := by
      show (if kindR v = 2 then _ else _) = _
      rw [hk, if_pos rfl]
      cases signR o <;> cases numsR [x, y, z] <;> rfl
    rw [e]
    cases ho : signR o with
    | none => simp [whereR, ho]
    | some p =>
      cases hn : numsR [x, y, z] with
      | none => simp [whereR, ho, hn]
      | some ns =>
        have hl := numsR_len hn
        match ns, hl with
        | [a, c, d], _ =>
          refine ⟨by simp [whereR, ho, hn, mkR], fun st h => ⟨p, a, c, d, by simp [whereR, ho, hn], ?_⟩⟩
          simp [mkR] at h
          exact h.symm
  · have e : stepR (v :: r) = none := by
      show (if kindR v = 2 then _ else _) = _
      rw [hk, if_pos rfl]
      match r, h4 with
      | [], _ => rfl
      | [_], _ => rfl
      | [_, _], _ => rfl
      | [_, _, _], _ => rfl
      | [x, y, o, z], h => exact absurd ⟨x, y, o, z, rfl⟩ h
      | _ :: _ :: _ :: _ :: _ :: _, _ => rfl
    have e2 : whereR r = none := by
      match r, h4 with
      | [], _ => rfl
      | [_], _ => rfl
      | [_, _], _ => rfl
      | [_, _, _], _ => rfl
      | [x, y, o, z], h => exact absurd ⟨x, y, o, z, rfl⟩ h
      | _ :: _ :: _ :: _ :: _ :: _, _ => rfl
    rw [e, e2]
    exact ⟨rfl, fun st h => by cases h⟩
theorem step_pick {v : List UInt8} {r : List (List UInt8)} (hk : kindR v = 3) : (stepR (v :: r)).isSome = (pickW r).isSome ∧ ∀ st, stepR (v :: r) = some st → ∃ a l, pickW r = some (a, l) ∧ st = ⟨3, a, 0, 0, 0, 0, l⟩ := by
  by_cases h4 : ∃ x y, r = [x, y]
  · obtain ⟨x, y, rfl⟩ := h4
    have e : stepR (v :: [x, y]) = match numsR [x], numsR (pcs 44 y) with
        | some ns, some l => mkR 3 0 l ns
        | _, _ => none := by
      show (if kindR v = 2 then _ else if kindR v = 3 then _ else _) = _
      rw [hk, if_neg (by decide), if_pos rfl]
      show (match numsR [x], numsR (pcs 44 y) with
        | some ns, some l => mkR 3 0 l ns
        | _, _ => none) = _
      cases numsR [x] <;> cases numsR (pcs 44 y) <;> rfl
    rw [e]
    cases hx : numR x with
    | none => simp [pickW, numsR, hx]
    | some a =>
      cases hn : numsR (pcs 44 y) with
      | none => simp [pickW, numsR, hx, hn]
      | some l =>
        refine ⟨by simp [pickW, numsR, hx, hn, mkR], fun st h => ⟨a, l, by simp [pickW, hx, hn], ?_⟩⟩
        simp [numsR, hx, mkR] at h
        exact h.symm
  · have e : stepR (v :: r) = none := by
      show (if kindR v = 2 then _ else if kindR v = 3 then _ else _) = _
      rw [hk, if_neg (by decide), if_pos rfl]
      match r, h4 with
      | [], _ => rfl
      | [_], _ => rfl
      | [x, y], h => exact absurd ⟨x, y, rfl⟩ h
      | _ :: _ :: _ :: _, _ => rfl
    have e2 : pickW r = none := by
      match r, h4 with
      | [], _ => rfl
      | [_], _ => rfl
      | [x, y], h => exact absurd ⟨x, y, rfl⟩ h
      | _ :: _ :: _ :: _, _ => rfl
    rw [e, e2]
    exact ⟨rfl, fun st h => by cases h⟩
theorem step_nil {v : List UInt8} {r : List (List UInt8)} (hk : kindR v = 0) : stepR (v :: r) = none := by
  have e : stepR (v :: r) = match numsR r with
      | some ns => mkR 0 0 [] ns
      | none => none := by
    show (if kindR v = 2 then _ else if kindR v = 3 then _ else _) = _
    rw [hk, if_neg (by decide), if_neg (by decide)]
    cases numsR r <;> rfl
  rw [e]
  cases hn : numsR r with
  | none => rfl
  | some ms =>
    match ms with
    | [] => rfl
    | [_] => rfl
    | [_, _] => rfl
    | [_, _, _] => rfl
    | [_, _, _, _] => rfl
    | _ :: _ :: _ :: _ :: _ :: _ => rfl
theorem NewInts.nil (w : World) (lo : Nat) : NewInts w lo none [] := ⟨Row.nil, fun _ _ _ h => by cases h⟩
set_option maxHeartbeats 4000000 in
set_option maxRecDepth 100000 in
theorem qstep_k1 (v : List UInt8) (r : List (List UInt8)) (n ba oa : Nat) (w : World) (hn : r.length = n) (hw : WordsAt w w.heap.size (some ⟨ba, oa, none⟩) (v :: r)) (hl2 : n ≤ 1999) (hm : MaxAt w) (hv : v = verbB 1) :
    Calls Tryd.prog 20 #[.slice (some ⟨ba, oa, none⟩) (n + 1) (n + 1)] w (StepPost (v :: r) w) := by
  have HW := hid hw
  have HM := hid hm
  clear hw hm
  have hcv : ba < w.heap.size ∧ w.cell? ⟨ba, oa, none⟩ = some (.string (bstr v)) := by
    rcases HW.out.2 with e | ⟨ba', oa', e, h2, h3, h4⟩
    · cases e
    · obtain ⟨rfl, rfl, -⟩ := Addr.mk.inj (Option.some.inj e)
      exact ⟨h3, h4 0 v rfl⟩
  obtain ⟨hbw, hcv⟩ := hcv
  obtain ⟨BV, hBV⟩ : ∃ q, q = bstr v := ⟨_, rfl⟩
  rw [← hBV] at hcv
  have HBV := hid hBV
  clear hBV
  obtain ⟨W2, hW2⟩ : ∃ q, q = (w.alloc (.cells (stC 0 0 0 0 0 0 (.slice none 0 0)) 40)).alloc (.cells (stC 0 0 0 0 0 0 (.slice none 0 0)) 40) := ⟨_, rfl⟩
  have hb2 : Below w.heap.size w W2 := by rw [hW2]; exact ((Below.refl _ _).alloc (Nat.le_refl _) _).alloc (by simp) _
  have HB2 := hid hb2
  have HX2 := hid (show Blk W2 (w.heap.size + 1) (stC 0 0 0 0 0 0 (.slice none 0 0)) 40 by rw [hW2]; exact Blk.new' _ _ _ (by simp))
  have HY2 := hid (show Blk W2 w.heap.size (stC 0 0 0 0 0 0 (.slice none 0 0)) 40 by rw [hW2]; exact (Blk.new _ _ _).alloc _)
  have hs2 : W2.heap.size = w.heap.size + 1 + 1 := by rw [hW2]; simp
  clear hb2
  -- the words behind the first
  obtain ⟨A1, c1, hA1⟩ : ∃ (A1 : Addr) (c1 : Nat), (n = 0 → A1 = ⟨ba, oa, none⟩) ∧ (n ≠ 0 → A1 = ⟨ba, oa + 1, none⟩) := by
    by_cases q : n = 0
    · exact ⟨_, 0, fun _ => rfl, fun h => absurd q h⟩
    · exact ⟨_, 0, fun h => absurd h q, fun _ => rfl⟩
  have HT := hid (show ∀ b, ba ≠ b → WordsAt w b (some A1) r from fun b hb => by
    by_cases q : n = 0
    · have : r = [] := List.length_eq_zero_iff.1 (hn.trans q)
      rw [this]; exact ⟨fun l hl => (by cases hl), .inl rfl⟩
    · rw [hA1.2 q]
      have h0 : WordsAt w b (some ⟨ba, oa, none⟩) (v :: r) := ⟨HW.out.1, HW.out.2.imp id fun ⟨ba', oa', h1, h2, h3, h4⟩ => ⟨ba', oa', h1, by
        obtain ⟨rfl, rfl, -⟩ := Addr.mk.inj (Option.some.inj h1)
        exact hb, h3, h4⟩⟩
      exact h0.tail)
  have HWD := hid (HT.out (w.heap.size + 1) (by omega))
  have HV := hid hv
  have hk : kindR v = 1 := by rw [hv]; decide
  have HF := hid (step_fin (r := r) hk (by omega))
  clear hk hv
  have e1 : (BV.toList == [116, 97, 98, 108, 101]) = true := bsq_eqLT HBV.out (HV.out.trans rfl)
  obtain ⟨C2, hC2⟩ : ∃ q : Array Value, q = #[.pointer (some ⟨w.heap.size + 1, 1, none⟩)] := ⟨_, rfl⟩
  have HA := hid (fun c1 => qread_st r [1] n 1 hn rfl (some A1) c1 1 (w.heap.size + 1 + 1) (w.heap.size + 1) 0 0 0 0 0 0 (.slice none 0 0) C2 40 61 (W2.alloc (.cells C2 61)) ((HWD.out.step HB2.out).step ((Below.refl _ _).alloc (Nat.le_refl _) _)) (by omega) (by omega)
    (HX2.out.alloc _) (by simp) (Blk.new' _ _ _ hs2.symm) (by rw [hC2]; rfl) (by omega))
  have HB3 := hid (HB2.out.alloc (by omega) (.cells C2 61))
  obtain ⟨RB, hRB⟩ : ∃ q, q = (decide (n = 1) && (numsR r).isSome) := ⟨_, rfl⟩
  rw [← hRB] at HA
  have HRB := hid (show RB = (stepR (v :: r)).isSome by rw [hRB, HF.out.1, hn]; rfl)
  have HNL := hid hn
  rw [hC2] at HA HB3
  clear hC2 hRB hn
  rcases Nat.eq_zero_or_pos n with h0 | h0
  · obtain rfl := hA1.1 h0
    subst h0
    clear hA1
    go_enter Tryd.func20, Tryd.ntmps20
    go_wp2_with fail
    rw [← hW2]
    -- STOP-k10
    refine (HA.out _).mono ?_
    rintro e w3 ⟨rfl, hg3, a', b', c', v', hx3, hs3⟩
    have HX3 := hid hx3
    have HY3 := hid ((HY2.out.alloc _).grown' hg3 (eq_false (fun e => by injection e with e; omega)))
    have HG3 := hid hg3
    have HS3 := hid hs3
    clear hx3 hg3 hs3
    obtain ⟨cHX3, fHX3, sHX3, nHX3⟩ := HX3.out.all
    try simp only [cbox] at cHX3
    obtain ⟨cHY3, fHY3, sHY3, nHY3⟩ := HY3.out.all
    try simp only [cbox] at cHY3
    go_wp2_with fail
    -- STOP-q10
    have hg : Below w.heap.size w w3 := Below.grown HB3.out HG3.out HB3.out.size (fun g e => by injection e with e; omega)
    obtain ⟨wF, hwF⟩ : ∃ q, q = qset7 (w3.setCell ⟨w.heap.size + 1, 0, none⟩ (.int .i64 1)) w.heap.size (.int .i64 1) (.int .i64 a') (.int .i64 b') (.int .i64 c') (.int .i64 0) (.int .i64 v') (.slice none 0 0) := ⟨_, rfl⟩
    have HYF : Blk wF w.heap.size (stC 1 a' b' c' 0 v' (.slice none 0 0)) 40 := by rw [hwF]; exact Blk.qset7 (HY3.out.other (a := ⟨w.heap.size + 1, 0, none⟩) (by simp) _) _ _ _ _ _ _ _
    have hbF : Below w.heap.size w wF := by
      rw [hwF]
      simp only [qset7]
      (repeat' (first | (with_reducible exact Below.refl _ _) | (with_reducible assumption) | (with_reducible refine below_drewN ?_ _) | (with_reducible refine Below.drew ?_) | (with_reducible refine Below.alloc ?_ ?_ _) | (with_reducible refine Below.setCell ?_ ?_ _) | (refine Below.trans ?_ (Below.mono (by assumption) ?_)) | go_size))
    simp only [qset7] at hwF
    rw [← hwF]
    clear cHX3 fHX3 sHX3 nHX3
    clear cHY3 fHY3 sHY3 nHY3
    have q0 := HYF.cells.1 0
    have q1 := HYF.cells.1 1
    have q2 := HYF.cells.1 2
    have q3 := HYF.cells.1 3
    have q4 := HYF.cells.1 4
    have q5 := HYF.cells.1 5
    have q6 := HYF.cells.1 6
    simp [stC] at q0 q1 q2 q3 q4 q5 q6
    clear hwF HYF hg
    refine bodyPost_ret (v := .tuple #[.agg (stC 1 a' b' c' 0 v' (.slice none 0 0)), .bool RB]) (by simp [results, Tryd.results20, go_sem, q0, q1, q2, q3, q4, q5, q6]) rfl ⟨1, a', b', c', 0, v', none, 0, 0, ?_, hbF, fun st h => ⟨[], HF.out.2 st a' b' c' v' h (fun h1 => HS3.out (by first | exact HNL.out ▸ h1 | (have := HNL.out; have h2 : r.length = 1 := h1; omega))), rfl, NewInts.nil _ _⟩⟩
    rw [← HRB.out]
  · have hz : (n = 0) = False := eq_false (by omega)
    have hz2 : (n + 1 = 1) = False := eq_false (by omega)
    have hz3 : (1 : Int) ≤ ((n + 1 : Nat) : Int) := by omega
    obtain rfl := hA1.2 (by omega)
    clear hA1
    go_enter Tryd.func20, Tryd.ntmps20
    go_wp2_with fail
    rw [← hW2]
    -- STOP-k11
    refine (HA.out _).mono ?_
    rintro e w3 ⟨rfl, hg3, a', b', c', v', hx3, hs3⟩
    have HX3 := hid hx3
    have HY3 := hid ((HY2.out.alloc _).grown' hg3 (eq_false (fun e => by injection e with e; omega)))
    have HG3 := hid hg3
    have HS3 := hid hs3
    clear hx3 hg3 hs3
    obtain ⟨cHX3, fHX3, sHX3, nHX3⟩ := HX3.out.all
    try simp only [cbox] at cHX3
    obtain ⟨cHY3, fHY3, sHY3, nHY3⟩ := HY3.out.all
    try simp only [cbox] at cHY3
    go_wp2_with fail
    -- STOP-q11
    have hg : Below w.heap.size w w3 := Below.grown HB3.out HG3.out HB3.out.size (fun g e => by injection e with e; omega)
    obtain ⟨wF, hwF⟩ : ∃ q, q = qset7 (w3.setCell ⟨w.heap.size + 1, 0, none⟩ (.int .i64 1)) w.heap.size (.int .i64 1) (.int .i64 a') (.int .i64 b') (.int .i64 c') (.int .i64 0) (.int .i64 v') (.slice none 0 0) := ⟨_, rfl⟩
    have HYF : Blk wF w.heap.size (stC 1 a' b' c' 0 v' (.slice none 0 0)) 40 := by rw [hwF]; exact Blk.qset7 (HY3.out.other (a := ⟨w.heap.size + 1, 0, none⟩) (by simp) _) _ _ _ _ _ _ _
    have hbF : Below w.heap.size w wF := by
      rw [hwF]
      simp only [qset7]
      (repeat' (first | (with_reducible exact Below.refl _ _) | (with_reducible assumption) | (with_reducible refine below_drewN ?_ _) | (with_reducible refine Below.drew ?_) | (with_reducible refine Below.alloc ?_ ?_ _) | (with_reducible refine Below.setCell ?_ ?_ _) | (refine Below.trans ?_ (Below.mono (by assumption) ?_)) | go_size))
    simp only [qset7] at hwF
    rw [← hwF]
    clear cHX3 fHX3 sHX3 nHX3
    clear cHY3 fHY3 sHY3 nHY3
    have q0 := HYF.cells.1 0
    have q1 := HYF.cells.1 1
    have q2 := HYF.cells.1 2
    have q3 := HYF.cells.1 3
    have q4 := HYF.cells.1 4
    have q5 := HYF.cells.1 5
    have q6 := HYF.cells.1 6
    simp [stC] at q0 q1 q2 q3 q4 q5 q6
    clear hwF HYF hg
    refine bodyPost_ret (v := .tuple #[.agg (stC 1 a' b' c' 0 v' (.slice none 0 0)), .bool RB]) (by simp [results, Tryd.results20, go_sem, q0, q1, q2, q3, q4, q5, q6]) rfl ⟨1, a', b', c', 0, v', none, 0, 0, ?_, hbF, fun st h => ⟨[], HF.out.2 st a' b' c' v' h (fun h1 => HS3.out (by first | exact HNL.out ▸ h1 | (have := HNL.out; have h2 : r.length = 1 := h1; omega))), rfl, NewInts.nil _ _⟩⟩
    rw [← HRB.out]
set_option maxHeartbeats 4000000 in
set_option maxRecDepth 100000 in
theorem qstep_k4 (v : List UInt8) (r : List (List UInt8)) (n ba oa : Nat) (w : World) (hn : r.length = n) (hw : WordsAt w w.heap.size (some ⟨ba, oa, none⟩) (v :: r)) (hl2 : n ≤ 1999) (hm : MaxAt w) (hv : v = verbB 4) :
    Calls Tryd.prog 20 #[.slice (some ⟨ba, oa, none⟩) (n + 1) (n + 1)] w (StepPost (v :: r) w) := by
  have HW := hid hw
  have HM := hid hm
  clear hw hm
  have hcv : ba < w.heap.size ∧ w.cell? ⟨ba, oa, none⟩ = some (.string (bstr v)) := by
    rcases HW.out.2 with e | ⟨ba', oa', e, h2, h3, h4⟩
    · cases e
    · obtain ⟨rfl, rfl, -⟩ := Addr.mk.inj (Option.some.inj e)
      exact ⟨h3, h4 0 v rfl⟩
  obtain ⟨hbw, hcv⟩ := hcv
  obtain ⟨BV, hBV⟩ : ∃ q, q = bstr v := ⟨_, rfl⟩
  rw [← hBV] at hcv
  have HBV := hid hBV
  clear hBV
  obtain ⟨W2, hW2⟩ : ∃ q, q = (w.alloc (.cells (stC 0 0 0 0 0 0 (.slice none 0 0)) 40)).alloc (.cells (stC 0 0 0 0 0 0 (.slice none 0 0)) 40) := ⟨_, rfl⟩
  have hb2 : Below w.heap.size w W2 := by rw [hW2]; exact ((Below.refl _ _).alloc (Nat.le_refl _) _).alloc (by simp) _
  have HB2 := hid hb2
  have HX2 := hid (show Blk W2 (w.heap.size + 1) (stC 0 0 0 0 0 0 (.slice none 0 0)) 40 by rw [hW2]; exact Blk.new' _ _ _ (by simp))
  have HY2 := hid (show Blk W2 w.heap.size (stC 0 0 0 0 0 0 (.slice none 0 0)) 40 by rw [hW2]; exact (Blk.new _ _ _).alloc _)
  have hs2 : W2.heap.size = w.heap.size + 1 + 1 := by rw [hW2]; simp
  clear hb2
  -- the words behind the first
  obtain ⟨A1, c1, hA1⟩ : ∃ (A1 : Addr) (c1 : Nat), (n = 0 → A1 = ⟨ba, oa, none⟩) ∧ (n ≠ 0 → A1 = ⟨ba, oa + 1, none⟩) := by
    by_cases q : n = 0
    · exact ⟨_, 0, fun _ => rfl, fun h => absurd q h⟩
    · exact ⟨_, 0, fun h => absurd h q, fun _ => rfl⟩
  have HT := hid (show ∀ b, ba ≠ b → WordsAt w b (some A1) r from fun b hb => by
    by_cases q : n = 0
    · have : r = [] := List.length_eq_zero_iff.1 (hn.trans q)
      rw [this]; exact ⟨fun l hl => (by cases hl), .inl rfl⟩
    · rw [hA1.2 q]
      have h0 : WordsAt w b (some ⟨ba, oa, none⟩) (v :: r) := ⟨HW.out.1, HW.out.2.imp id fun ⟨ba', oa', h1, h2, h3, h4⟩ => ⟨ba', oa', h1, by
        obtain ⟨rfl, rfl, -⟩ := Addr.mk.inj (Option.some.inj h1)
        exact hb, h3, h4⟩⟩
      exact h0.tail)
  have HWD := hid (HT.out (w.heap.size + 1) (by omega))
  have HV := hid hv
  have hk : kindR v = 4 := by rw [hv]; decide
  have HF := hid (step_fin (r := r) hk (by omega))
  clear hk hv
  have e1 : (BV.toList == [116, 97, 98, 108, 101]) = false := bsq_eqLF HBV.out (by rw [HV.out]; decide)
  have e2 : (BV.toList == [119, 104, 101, 114, 101]) = false := bsq_eqLF HBV.out (by rw [HV.out]; decide)
  have e3 : (BV.toList == [112, 105, 99, 107]) = false := bsq_eqLF HBV.out (by rw [HV.out]; decide)
  have e4 : (BV.toList == [106, 111, 105, 110]) = true := bsq_eqLT HBV.out (HV.out.trans rfl)
  obtain ⟨C2, hC2⟩ : ∃ q : Array Value, q = #[.pointer (some ⟨w.heap.size + 1, 1, none⟩), .pointer (some ⟨w.heap.size + 1, 2, none⟩), .pointer (some ⟨w.heap.size + 1, 3, none⟩), .pointer (some ⟨w.heap.size + 1, 5, none⟩)] := ⟨_, rfl⟩
  have HA := hid (fun c1 => qread_st r [1, 2, 3, 5] n 4 hn rfl (some A1) c1 4 (w.heap.size + 1 + 1) (w.heap.size + 1) 0 0 0 0 0 0 (.slice none 0 0) C2 40 61 (W2.alloc (.cells C2 61)) ((HWD.out.step HB2.out).step ((Below.refl _ _).alloc (Nat.le_refl _) _)) (by omega) (by omega)
    (HX2.out.alloc _) (by simp) (Blk.new' _ _ _ hs2.symm) (by rw [hC2]; rfl) (by omega))
  have HB3 := hid (HB2.out.alloc (by omega) (.cells C2 61))
  obtain ⟨RB, hRB⟩ : ∃ q, q = (decide (n = 4) && (numsR r).isSome) := ⟨_, rfl⟩
  rw [← hRB] at HA
  have HRB := hid (show RB = (stepR (v :: r)).isSome by rw [hRB, HF.out.1, hn]; rfl)
  have HNL := hid hn
  rw [hC2] at HA HB3
  clear hC2 hRB hn
  rcases Nat.eq_zero_or_pos n with h0 | h0
  · obtain rfl := hA1.1 h0
    subst h0
    clear hA1
    go_enter Tryd.func20, Tryd.ntmps20
    go_wp2_with fail
    rw [← hW2]
    -- STOP-k40
    refine (HA.out _).mono ?_
    rintro e w3 ⟨rfl, hg3, a', b', c', v', hx3, hs3⟩
    have HX3 := hid hx3
    have HY3 := hid ((HY2.out.alloc _).grown' hg3 (eq_false (fun e => by injection e with e; omega)))
    have HG3 := hid hg3
    have HS3 := hid hs3
    clear hx3 hg3 hs3
    obtain ⟨cHX3, fHX3, sHX3, nHX3⟩ := HX3.out.all
    try simp only [cbox] at cHX3
    obtain ⟨cHY3, fHY3, sHY3, nHY3⟩ := HY3.out.all
    try simp only [cbox] at cHY3
    go_wp2_with fail
    -- STOP-q40
    have hg : Below w.heap.size w w3 := Below.grown HB3.out HG3.out HB3.out.size (fun g e => by injection e with e; omega)
    obtain ⟨wF, hwF⟩ : ∃ q, q = qset7 (w3.setCell ⟨w.heap.size + 1, 0, none⟩ (.int .i64 4)) w.heap.size (.int .i64 4) (.int .i64 a') (.int .i64 b') (.int .i64 c') (.int .i64 0) (.int .i64 v') (.slice none 0 0) := ⟨_, rfl⟩
    have HYF : Blk wF w.heap.size (stC 4 a' b' c' 0 v' (.slice none 0 0)) 40 := by rw [hwF]; exact Blk.qset7 (HY3.out.other (a := ⟨w.heap.size + 1, 0, none⟩) (by simp) _) _ _ _ _ _ _ _
    have hbF : Below w.heap.size w wF := by
      rw [hwF]
      simp only [qset7]
      (repeat' (first | (with_reducible exact Below.refl _ _) | (with_reducible assumption) | (with_reducible refine below_drewN ?_ _) | (with_reducible refine Below.drew ?_) | (with_reducible refine Below.alloc ?_ ?_ _) | (with_reducible refine Below.setCell ?_ ?_ _) | (refine Below.trans ?_ (Below.mono (by assumption) ?_)) | go_size))
    simp only [qset7] at hwF
    rw [← hwF]
    clear cHX3 fHX3 sHX3 nHX3
    clear cHY3 fHY3 sHY3 nHY3
    have q0 := HYF.cells.1 0
    have q1 := HYF.cells.1 1
    have q2 := HYF.cells.1 2
    have q3 := HYF.cells.1 3
    have q4 := HYF.cells.1 4
    have q5 := HYF.cells.1 5
    have q6 := HYF.cells.1 6
    simp [stC] at q0 q1 q2 q3 q4 q5 q6
    clear hwF HYF hg
    refine bodyPost_ret (v := .tuple #[.agg (stC 4 a' b' c' 0 v' (.slice none 0 0)), .bool RB]) (by simp [results, Tryd.results20, go_sem, q0, q1, q2, q3, q4, q5, q6]) rfl ⟨4, a', b', c', 0, v', none, 0, 0, ?_, hbF, fun st h => ⟨[], HF.out.2 st a' b' c' v' h (fun h1 => HS3.out (by first | exact HNL.out ▸ h1 | (have := HNL.out; have h2 : r.length = 4 := h1; omega))), rfl, NewInts.nil _ _⟩⟩
    rw [← HRB.out]
  · have hz : (n = 0) = False := eq_false (by omega)
    have hz2 : (n + 1 = 1) = False := eq_false (by omega)
    have hz3 : (1 : Int) ≤ ((n + 1 : Nat) : Int) := by omega
    obtain rfl := hA1.2 (by omega)
    clear hA1
    go_enter Tryd.func20, Tryd.ntmps20
    go_wp2_with fail
    rw [← hW2]
    -- STOP-k41
    refine (HA.out _).mono ?_
    rintro e w3 ⟨rfl, hg3, a', b', c', v', hx3, hs3⟩
    have HX3 := hid hx3
    have HY3 := hid ((HY2.out.alloc _).grown' hg3 (eq_false (fun e => by injection e with e; omega)))
    have HG3 := hid hg3
    have HS3 := hid hs3
    clear hx3 hg3 hs3
    obtain ⟨cHX3, fHX3, sHX3, nHX3⟩ := HX3.out.all
    try simp only [cbox] at cHX3
    obtain ⟨cHY3, fHY3, sHY3, nHY3⟩ := HY3.out.all
    try simp only [cbox] at cHY3
    go_wp2_with fail
    -- STOP-q41
    have hg : Below w.heap.size w w3 := Below.grown HB3.out HG3.out HB3.out.size (fun g e => by injection e with e; omega)
    obtain ⟨wF, hwF⟩ : ∃ q, q = qset7 (w3.setCell ⟨w.heap.size + 1, 0, none⟩ (.int .i64 4)) w.heap.size (.int .i64 4) (.int .i64 a') (.int .i64 b') (.int .i64 c') (.int .i64 0) (.int .i64 v') (.slice none 0 0) := ⟨_, rfl⟩
    have HYF : Blk wF w.heap.size (stC 4 a' b' c' 0 v' (.slice none 0 0)) 40 := by rw [hwF]; exact Blk.qset7 (HY3.out.other (a := ⟨w.heap.size + 1, 0, none⟩) (by simp) _) _ _ _ _ _ _ _
    have hbF : Below w.heap.size w wF := by
      rw [hwF]
      simp only [qset7]
      (repeat' (first | (with_reducible exact Below.refl _ _) | (with_reducible assumption) | (with_reducible refine below_drewN ?_ _) | (with_reducible refine Below.drew ?_) | (with_reducible refine Below.alloc ?_ ?_ _) | (with_reducible refine Below.setCell ?_ ?_ _) | (refine Below.trans ?_ (Below.mono (by assumption) ?_)) | go_size))
    simp only [qset7] at hwF
    rw [← hwF]
    clear cHX3 fHX3 sHX3 nHX3
    clear cHY3 fHY3 sHY3 nHY3
    have q0 := HYF.cells.1 0
    have q1 := HYF.cells.1 1
    have q2 := HYF.cells.1 2
    have q3 := HYF.cells.1 3
    have q4 := HYF.cells.1 4
    have q5 := HYF.cells.1 5
    have q6 := HYF.cells.1 6
    simp [stC] at q0 q1 q2 q3 q4 q5 q6
    clear hwF HYF hg
    refine bodyPost_ret (v := .tuple #[.agg (stC 4 a' b' c' 0 v' (.slice none 0 0)), .bool RB]) (by simp [results, Tryd.results20, go_sem, q0, q1, q2, q3, q4, q5, q6]) rfl ⟨4, a', b', c', 0, v', none, 0, 0, ?_, hbF, fun st h => ⟨[], HF.out.2 st a' b' c' v' h (fun h1 => HS3.out (by first | exact HNL.out ▸ h1 | (have := HNL.out; have h2 : r.length = 4 := h1; omega))), rfl, NewInts.nil _ _⟩⟩
    rw [← HRB.out]
set_option maxHeartbeats 4000000 in
set_option maxRecDepth 100000 in
theorem qstep_k5 (v : List UInt8) (r : List (List UInt8)) (n ba oa : Nat) (w : World) (hn : r.length = n) (hw : WordsAt w w.heap.size (some ⟨ba, oa, none⟩) (v :: r)) (hl2 : n ≤ 1999) (hm : MaxAt w) (hv : v = verbB 5) :
    Calls Tryd.prog 20 #[.slice (some ⟨ba, oa, none⟩) (n + 1) (n + 1)] w (StepPost (v :: r) w) := by
  have HW := hid hw
  have HM := hid hm
  clear hw hm
  have hcv : ba < w.heap.size ∧ w.cell? ⟨ba, oa, none⟩ = some (.string (bstr v)) := by
    rcases HW.out.2 with e | ⟨ba', oa', e, h2, h3, h4⟩
    · cases e
    · obtain ⟨rfl, rfl, -⟩ := Addr.mk.inj (Option.some.inj e)
      exact ⟨h3, h4 0 v rfl⟩
  obtain ⟨hbw, hcv⟩ := hcv
  obtain ⟨BV, hBV⟩ : ∃ q, q = bstr v := ⟨_, rfl⟩
  rw [← hBV] at hcv
  have HBV := hid hBV
  clear hBV
  obtain ⟨W2, hW2⟩ : ∃ q, q = (w.alloc (.cells (stC 0 0 0 0 0 0 (.slice none 0 0)) 40)).alloc (.cells (stC 0 0 0 0 0 0 (.slice none 0 0)) 40) := ⟨_, rfl⟩
  have hb2 : Below w.heap.size w W2 := by rw [hW2]; exact ((Below.refl _ _).alloc (Nat.le_refl _) _).alloc (by simp) _
  have HB2 := hid hb2
  have HX2 := hid (show Blk W2 (w.heap.size + 1) (stC 0 0 0 0 0 0 (.slice none 0 0)) 40 by rw [hW2]; exact Blk.new' _ _ _ (by simp))
  have HY2 := hid (show Blk W2 w.heap.size (stC 0 0 0 0 0 0 (.slice none 0 0)) 40 by rw [hW2]; exact (Blk.new _ _ _).alloc _)
  have hs2 : W2.heap.size = w.heap.size + 1 + 1 := by rw [hW2]; simp
  clear hb2
  -- the words behind the first
  obtain ⟨A1, c1, hA1⟩ : ∃ (A1 : Addr) (c1 : Nat), (n = 0 → A1 = ⟨ba, oa, none⟩) ∧ (n ≠ 0 → A1 = ⟨ba, oa + 1, none⟩) := by
    by_cases q : n = 0
    · exact ⟨_, 0, fun _ => rfl, fun h => absurd q h⟩
    · exact ⟨_, 0, fun h => absurd h q, fun _ => rfl⟩
  have HT := hid (show ∀ b, ba ≠ b → WordsAt w b (some A1) r from fun b hb => by
    by_cases q : n = 0
    · have : r = [] := List.length_eq_zero_iff.1 (hn.trans q)
      rw [this]; exact ⟨fun l hl => (by cases hl), .inl rfl⟩
    · rw [hA1.2 q]
      have h0 : WordsAt w b (some ⟨ba, oa, none⟩) (v :: r) := ⟨HW.out.1, HW.out.2.imp id fun ⟨ba', oa', h1, h2, h3, h4⟩ => ⟨ba', oa', h1, by
        obtain ⟨rfl, rfl, -⟩ := Addr.mk.inj (Option.some.inj h1)
        exact hb, h3, h4⟩⟩
      exact h0.tail)
  have HWD := hid (HT.out (w.heap.size + 1) (by omega))
  have HV := hid hv
  have hk : kindR v = 5 := by rw [hv]; decide
  have HF := hid (step_fin (r := r) hk (by omega))
  clear hk hv
  have e1 : (BV.toList == [116, 97, 98, 108, 101]) = false := bsq_eqLF HBV.out (by rw [HV.out]; decide)
  have e2 : (BV.toList == [119, 104, 101, 114, 101]) = false := bsq_eqLF HBV.out (by rw [HV.out]; decide)
  have e3 : (BV.toList == [112, 105, 99, 107]) = false := bsq_eqLF HBV.out (by rw [HV.out]; decide)
  have e4 : (BV.toList == [106, 111, 105, 110]) = false := bsq_eqLF HBV.out (by rw [HV.out]; decide)
  have e5 : (BV.toList == [117, 110, 105, 111, 110]) = true := bsq_eqLT HBV.out (HV.out.trans rfl)
  obtain ⟨C2, hC2⟩ : ∃ q : Array Value, q = #[.pointer (some ⟨w.heap.size + 1, 1, none⟩), .pointer (some ⟨w.heap.size + 1, 2, none⟩)] := ⟨_, rfl⟩
  have HA := hid (fun c1 => qread_st r [1, 2] n 2 hn rfl (some A1) c1 2 (w.heap.size + 1 + 1) (w.heap.size + 1) 0 0 0 0 0 0 (.slice none 0 0) C2 40 61 (W2.alloc (.cells C2 61)) ((HWD.out.step HB2.out).step ((Below.refl _ _).alloc (Nat.le_refl _) _)) (by omega) (by omega)
    (HX2.out.alloc _) (by simp) (Blk.new' _ _ _ hs2.symm) (by rw [hC2]; rfl) (by omega))
  have HB3 := hid (HB2.out.alloc (by omega) (.cells C2 61))
  obtain ⟨RB, hRB⟩ : ∃ q, q = (decide (n = 2) && (numsR r).isSome) := ⟨_, rfl⟩
  rw [← hRB] at HA
  have HRB := hid (show RB = (stepR (v :: r)).isSome by rw [hRB, HF.out.1, hn]; rfl)
  have HNL := hid hn
  rw [hC2] at HA HB3
  clear hC2 hRB hn
  rcases Nat.eq_zero_or_pos n with h0 | h0
  · obtain rfl := hA1.1 h0
    subst h0
    clear hA1
    go_enter Tryd.func20, Tryd.ntmps20
    go_wp2_with fail
    rw [← hW2]
    -- STOP-k50
    refine (HA.out _).mono ?_
    rintro e w3 ⟨rfl, hg3, a', b', c', v', hx3, hs3⟩
    have HX3 := hid hx3
    have HY3 := hid ((HY2.out.alloc _).grown' hg3 (eq_false (fun e => by injection e with e; omega)))
    have HG3 := hid hg3
    have HS3 := hid hs3
    clear hx3 hg3 hs3
    obtain ⟨cHX3, fHX3, sHX3, nHX3⟩ := HX3.out.all
    try simp only [cbox] at cHX3
    obtain ⟨cHY3, fHY3, sHY3, nHY3⟩ := HY3.out.all
    try simp only [cbox] at cHY3
    go_wp2_with fail
    -- STOP-q50
    have hg : Below w.heap.size w w3 := Below.grown HB3.out HG3.out HB3.out.size (fun g e => by injection e with e; omega)
    obtain ⟨wF, hwF⟩ : ∃ q, q = qset7 (w3.setCell ⟨w.heap.size + 1, 0, none⟩ (.int .i64 5)) w.heap.size (.int .i64 5) (.int .i64 a') (.int .i64 b') (.int .i64 c') (.int .i64 0) (.int .i64 v') (.slice none 0 0) := ⟨_, rfl⟩
    have HYF : Blk wF w.heap.size (stC 5 a' b' c' 0 v' (.slice none 0 0)) 40 := by rw [hwF]; exact Blk.qset7 (HY3.out.other (a := ⟨w.heap.size + 1, 0, none⟩) (by simp) _) _ _ _ _ _ _ _
    have hbF : Below w.heap.size w wF := by
      rw [hwF]
      simp only [qset7]
      (repeat' (first | (with_reducible exact Below.refl _ _) | (with_reducible assumption) | (with_reducible refine below_drewN ?_ _) | (with_reducible refine Below.drew ?_) | (with_reducible refine Below.alloc ?_ ?_ _) | (with_reducible refine Below.setCell ?_ ?_ _) | (refine Below.trans ?_ (Below.mono (by assumption) ?_)) | go_size))
    simp only [qset7] at hwF
    rw [← hwF]
    clear cHX3 fHX3 sHX3 nHX3
    clear cHY3 fHY3 sHY3 nHY3
    have q0 := HYF.cells.1 0
    have q1 := HYF.cells.1 1
    have q2 := HYF.cells.1 2
    have q3 := HYF.cells.1 3
    have q4 := HYF.cells.1 4
    have q5 := HYF.cells.1 5
    have q6 := HYF.cells.1 6
    simp [stC] at q0 q1 q2 q3 q4 q5 q6
    clear hwF HYF hg
    refine bodyPost_ret (v := .tuple #[.agg (stC 5 a' b' c' 0 v' (.slice none 0 0)), .bool RB]) (by simp [results, Tryd.results20, go_sem, q0, q1, q2, q3, q4, q5, q6]) rfl ⟨5, a', b', c', 0, v', none, 0, 0, ?_, hbF, fun st h => ⟨[], HF.out.2 st a' b' c' v' h (fun h1 => HS3.out (by first | exact HNL.out ▸ h1 | (have := HNL.out; have h2 : r.length = 2 := h1; omega))), rfl, NewInts.nil _ _⟩⟩
    rw [← HRB.out]
  · have hz : (n = 0) = False := eq_false (by omega)
    have hz2 : (n + 1 = 1) = False := eq_false (by omega)
    have hz3 : (1 : Int) ≤ ((n + 1 : Nat) : Int) := by omega
    obtain rfl := hA1.2 (by omega)
    clear hA1
    go_enter Tryd.func20, Tryd.ntmps20
    go_wp2_with fail
    rw [← hW2]
    -- STOP-k51
    refine (HA.out _).mono ?_
    rintro e w3 ⟨rfl, hg3, a', b', c', v', hx3, hs3⟩
    have HX3 := hid hx3
    have HY3 := hid ((HY2.out.alloc _).grown' hg3 (eq_false (fun e => by injection e with e; omega)))
    have HG3 := hid hg3
    have HS3 := hid hs3
    clear hx3 hg3 hs3
    obtain ⟨cHX3, fHX3, sHX3, nHX3⟩ := HX3.out.all
    try simp only [cbox] at cHX3
    obtain ⟨cHY3, fHY3, sHY3, nHY3⟩ := HY3.out.all
    try simp only [cbox] at cHY3
    go_wp2_with fail
    -- STOP-q51
    have hg : Below w.heap.size w w3 := Below.grown HB3.out HG3.out HB3.out.size (fun g e => by injection e with e; omega)
    obtain ⟨wF, hwF⟩ : ∃ q, q = qset7 (w3.setCell ⟨w.heap.size + 1, 0, none⟩ (.int .i64 5)) w.heap.size (.int .i64 5) (.int .i64 a') (.int .i64 b') (.int .i64 c') (.int .i64 0) (.int .i64 v') (.slice none 0 0) := ⟨_, rfl⟩
    have HYF : Blk wF w.heap.size (stC 5 a' b' c' 0 v' (.slice none 0 0)) 40 := by rw [hwF]; exact Blk.qset7 (HY3.out.other (a := ⟨w.heap.size + 1, 0, none⟩) (by simp) _) _ _ _ _ _ _ _
    have hbF : Below w.heap.size w wF := by
      rw [hwF]
      simp only [qset7]
      (repeat' (first | (with_reducible exact Below.refl _ _) | (with_reducible assumption) | (with_reducible refine below_drewN ?_ _) | (with_reducible refine Below.drew ?_) | (with_reducible refine Below.alloc ?_ ?_ _) | (with_reducible refine Below.setCell ?_ ?_ _) | (refine Below.trans ?_ (Below.mono (by assumption) ?_)) | go_size))
    simp only [qset7] at hwF
    rw [← hwF]
    clear cHX3 fHX3 sHX3 nHX3
    clear cHY3 fHY3 sHY3 nHY3
    have q0 := HYF.cells.1 0
    have q1 := HYF.cells.1 1
    have q2 := HYF.cells.1 2
    have q3 := HYF.cells.1 3
    have q4 := HYF.cells.1 4
    have q5 := HYF.cells.1 5
    have q6 := HYF.cells.1 6
    simp [stC] at q0 q1 q2 q3 q4 q5 q6
    clear hwF HYF hg
    refine bodyPost_ret (v := .tuple #[.agg (stC 5 a' b' c' 0 v' (.slice none 0 0)), .bool RB]) (by simp [results, Tryd.results20, go_sem, q0, q1, q2, q3, q4, q5, q6]) rfl ⟨5, a', b', c', 0, v', none, 0, 0, ?_, hbF, fun st h => ⟨[], HF.out.2 st a' b' c' v' h (fun h1 => HS3.out (by first | exact HNL.out ▸ h1 | (have := HNL.out; have h2 : r.length = 2 := h1; omega))), rfl, NewInts.nil _ _⟩⟩
    rw [← HRB.out]
set_option maxHeartbeats 4000000 in
set_option maxRecDepth 100000 in
theorem qstep_k6 (v : List UInt8) (r : List (List UInt8)) (n ba oa : Nat) (w : World) (hn : r.length = n) (hw : WordsAt w w.heap.size (some ⟨ba, oa, none⟩) (v :: r)) (hl2 : n ≤ 1999) (hm : MaxAt w) (hv : v = verbB 6) :
    Calls Tryd.prog 20 #[.slice (some ⟨ba, oa, none⟩) (n + 1) (n + 1)] w (StepPost (v :: r) w) := by
  have HW := hid hw
  have HM := hid hm
  clear hw hm
  have hcv : ba < w.heap.size ∧ w.cell? ⟨ba, oa, none⟩ = some (.string (bstr v)) := by
    rcases HW.out.2 with e | ⟨ba', oa', e, h2, h3, h4⟩
    · cases e
    · obtain ⟨rfl, rfl, -⟩ := Addr.mk.inj (Option.some.inj e)
      exact ⟨h3, h4 0 v rfl⟩
  obtain ⟨hbw, hcv⟩ := hcv
  obtain ⟨BV, hBV⟩ : ∃ q, q = bstr v := ⟨_, rfl⟩
  rw [← hBV] at hcv
  have HBV := hid hBV
  clear hBV
  obtain ⟨W2, hW2⟩ : ∃ q, q = (w.alloc (.cells (stC 0 0 0 0 0 0 (.slice none 0 0)) 40)).alloc (.cells (stC 0 0 0 0 0 0 (.slice none 0 0)) 40) := ⟨_, rfl⟩
  have hb2 : Below w.heap.size w W2 := by rw [hW2]; exact ((Below.refl _ _).alloc (Nat.le_refl _) _).alloc (by simp) _
  have HB2 := hid hb2
  have HX2 := hid (show Blk W2 (w.heap.size + 1) (stC 0 0 0 0 0 0 (.slice none 0 0)) 40 by rw [hW2]; exact Blk.new' _ _ _ (by simp))
  have HY2 := hid (show Blk W2 w.heap.size (stC 0 0 0 0 0 0 (.slice none 0 0)) 40 by rw [hW2]; exact (Blk.new _ _ _).alloc _)
  have hs2 : W2.heap.size = w.heap.size + 1 + 1 := by rw [hW2]; simp
  clear hb2
  -- the words behind the first
  obtain ⟨A1, c1, hA1⟩ : ∃ (A1 : Addr) (c1 : Nat), (n = 0 → A1 = ⟨ba, oa, none⟩) ∧ (n ≠ 0 → A1 = ⟨ba, oa + 1, none⟩) := by
    by_cases q : n = 0
    · exact ⟨_, 0, fun _ => rfl, fun h => absurd q h⟩
    · exact ⟨_, 0, fun h => absurd h q, fun _ => rfl⟩
  have HT := hid (show ∀ b, ba ≠ b → WordsAt w b (some A1) r from fun b hb => by
    by_cases q : n = 0
    · have : r = [] := List.length_eq_zero_iff.1 (hn.trans q)
      rw [this]; exact ⟨fun l hl => (by cases hl), .inl rfl⟩
    · rw [hA1.2 q]
      have h0 : WordsAt w b (some ⟨ba, oa, none⟩) (v :: r) := ⟨HW.out.1, HW.out.2.imp id fun ⟨ba', oa', h1, h2, h3, h4⟩ => ⟨ba', oa', h1, by
        obtain ⟨rfl, rfl, -⟩ := Addr.mk.inj (Option.some.inj h1)
        exact hb, h3, h4⟩⟩
      exact h0.tail)
  have HWD := hid (HT.out (w.heap.size + 1) (by omega))
  have HV := hid hv
  have hk : kindR v = 6 := by rw [hv]; decide
  have HF := hid (step_fin (r := r) hk (by omega))
  clear hk hv
  have e1 : (BV.toList == [116, 97, 98, 108, 101]) = false := bsq_eqLF HBV.out (by rw [HV.out]; decide)
  have e2 : (BV.toList == [119, 104, 101, 114, 101]) = false := bsq_eqLF HBV.out (by rw [HV.out]; decide)
  have e3 : (BV.toList == [112, 105, 99, 107]) = false := bsq_eqLF HBV.out (by rw [HV.out]; decide)
  have e4 : (BV.toList == [106, 111, 105, 110]) = false := bsq_eqLF HBV.out (by rw [HV.out]; decide)
  have e5 : (BV.toList == [117, 110, 105, 111, 110]) = false := bsq_eqLF HBV.out (by rw [HV.out]; decide)
  have e6 : (BV.toList == [109, 105, 110, 117, 115]) = true := bsq_eqLT HBV.out (HV.out.trans rfl)
  obtain ⟨C2, hC2⟩ : ∃ q : Array Value, q = #[.pointer (some ⟨w.heap.size + 1, 1, none⟩), .pointer (some ⟨w.heap.size + 1, 2, none⟩)] := ⟨_, rfl⟩
  have HA := hid (fun c1 => qread_st r [1, 2] n 2 hn rfl (some A1) c1 2 (w.heap.size + 1 + 1) (w.heap.size + 1) 0 0 0 0 0 0 (.slice none 0 0) C2 40 61 (W2.alloc (.cells C2 61)) ((HWD.out.step HB2.out).step ((Below.refl _ _).alloc (Nat.le_refl _) _)) (by omega) (by omega)
    (HX2.out.alloc _) (by simp) (Blk.new' _ _ _ hs2.symm) (by rw [hC2]; rfl) (by omega))
  have HB3 := hid (HB2.out.alloc (by omega) (.cells C2 61))
  obtain ⟨RB, hRB⟩ : ∃ q, q = (decide (n = 2) && (numsR r).isSome) := ⟨_, rfl⟩
  rw [← hRB] at HA
  have HRB := hid (show RB = (stepR (v :: r)).isSome by rw [hRB, HF.out.1, hn]; rfl)
  have HNL := hid hn
  rw [hC2] at HA HB3
  clear hC2 hRB hn
  rcases Nat.eq_zero_or_pos n with h0 | h0
  · obtain rfl := hA1.1 h0
    subst h0
    clear hA1
    go_enter Tryd.func20, Tryd.ntmps20
    go_wp2_with fail
    rw [← hW2]
    -- STOP-k60
    refine (HA.out _).mono ?_
    rintro e w3 ⟨rfl, hg3, a', b', c', v', hx3, hs3⟩
    have HX3 := hid hx3
    have HY3 := hid ((HY2.out.alloc _).grown' hg3 (eq_false (fun e => by injection e with e; omega)))
    have HG3 := hid hg3
    have HS3 := hid hs3
    clear hx3 hg3 hs3
    obtain ⟨cHX3, fHX3, sHX3, nHX3⟩ := HX3.out.all
    try simp only [cbox] at cHX3
    obtain ⟨cHY3, fHY3, sHY3, nHY3⟩ := HY3.out.all
    try simp only [cbox] at cHY3
    go_wp2_with fail
    -- STOP-q60
    have hg : Below w.heap.size w w3 := Below.grown HB3.out HG3.out HB3.out.size (fun g e => by injection e with e; omega)
    obtain ⟨wF, hwF⟩ : ∃ q, q = qset7 (w3.setCell ⟨w.heap.size + 1, 0, none⟩ (.int .i64 6)) w.heap.size (.int .i64 6) (.int .i64 a') (.int .i64 b') (.int .i64 c') (.int .i64 0) (.int .i64 v') (.slice none 0 0) := ⟨_, rfl⟩
    have HYF : Blk wF w.heap.size (stC 6 a' b' c' 0 v' (.slice none 0 0)) 40 := by rw [hwF]; exact Blk.qset7 (HY3.out.other (a := ⟨w.heap.size + 1, 0, none⟩) (by simp) _) _ _ _ _ _ _ _
    have hbF : Below w.heap.size w wF := by
      rw [hwF]
      simp only [qset7]
      (repeat' (first | (with_reducible exact Below.refl _ _) | (with_reducible assumption) | (with_reducible refine below_drewN ?_ _) | (with_reducible refine Below.drew ?_) | (with_reducible refine Below.alloc ?_ ?_ _) | (with_reducible refine Below.setCell ?_ ?_ _) | (refine Below.trans ?_ (Below.mono (by assumption) ?_)) | go_size))
    simp only [qset7] at hwF
    rw [← hwF]
    clear cHX3 fHX3 sHX3 nHX3
    clear cHY3 fHY3 sHY3 nHY3
    have q0 := HYF.cells.1 0
    have q1 := HYF.cells.1 1
    have q2 := HYF.cells.1 2
    have q3 := HYF.cells.1 3
    have q4 := HYF.cells.1 4
    have q5 := HYF.cells.1 5
    have q6 := HYF.cells.1 6
    simp [stC] at q0 q1 q2 q3 q4 q5 q6
    clear hwF HYF hg
    refine bodyPost_ret (v := .tuple #[.agg (stC 6 a' b' c' 0 v' (.slice none 0 0)), .bool RB]) (by simp [results, Tryd.results20, go_sem, q0, q1, q2, q3, q4, q5, q6]) rfl ⟨6, a', b', c', 0, v', none, 0, 0, ?_, hbF, fun st h => ⟨[], HF.out.2 st a' b' c' v' h (fun h1 => HS3.out (by first | exact HNL.out ▸ h1 | (have := HNL.out; have h2 : r.length = 2 := h1; omega))), rfl, NewInts.nil _ _⟩⟩
    rw [← HRB.out]
  · have hz : (n = 0) = False := eq_false (by omega)
    have hz2 : (n + 1 = 1) = False := eq_false (by omega)
    have hz3 : (1 : Int) ≤ ((n + 1 : Nat) : Int) := by omega
    obtain rfl := hA1.2 (by omega)
    clear hA1
    go_enter Tryd.func20, Tryd.ntmps20
    go_wp2_with fail
    rw [← hW2]
    -- STOP-k61
    refine (HA.out _).mono ?_
    rintro e w3 ⟨rfl, hg3, a', b', c', v', hx3, hs3⟩
    have HX3 := hid hx3
    have HY3 := hid ((HY2.out.alloc _).grown' hg3 (eq_false (fun e => by injection e with e; omega)))
    have HG3 := hid hg3
    have HS3 := hid hs3
    clear hx3 hg3 hs3
    obtain ⟨cHX3, fHX3, sHX3, nHX3⟩ := HX3.out.all
    try simp only [cbox] at cHX3
    obtain ⟨cHY3, fHY3, sHY3, nHY3⟩ := HY3.out.all
    try simp only [cbox] at cHY3
    go_wp2_with fail
    -- STOP-q61
    have hg : Below w.heap.size w w3 := Below.grown HB3.out HG3.out HB3.out.size (fun g e => by injection e with e; omega)
    obtain ⟨wF, hwF⟩ : ∃ q, q = qset7 (w3.setCell ⟨w.heap.size + 1, 0, none⟩ (.int .i64 6)) w.heap.size (.int .i64 6) (.int .i64 a') (.int .i64 b') (.int .i64 c') (.int .i64 0) (.int .i64 v') (.slice none 0 0) := ⟨_, rfl⟩
    have HYF : Blk wF w.heap.size (stC 6 a' b' c' 0 v' (.slice none 0 0)) 40 := by rw [hwF]; exact Blk.qset7 (HY3.out.other (a := ⟨w.heap.size + 1, 0, none⟩) (by simp) _) _ _ _ _ _ _ _
    have hbF : Below w.heap.size w wF := by
      rw [hwF]
      simp only [qset7]
      (repeat' (first | (with_reducible exact Below.refl _ _) | (with_reducible assumption) | (with_reducible refine below_drewN ?_ _) | (with_reducible refine Below.drew ?_) | (with_reducible refine Below.alloc ?_ ?_ _) | (with_reducible refine Below.setCell ?_ ?_ _) | (refine Below.trans ?_ (Below.mono (by assumption) ?_)) | go_size))
    simp only [qset7] at hwF
    rw [← hwF]
    clear cHX3 fHX3 sHX3 nHX3
    clear cHY3 fHY3 sHY3 nHY3
    have q0 := HYF.cells.1 0
    have q1 := HYF.cells.1 1
    have q2 := HYF.cells.1 2
    have q3 := HYF.cells.1 3
    have q4 := HYF.cells.1 4
    have q5 := HYF.cells.1 5
    have q6 := HYF.cells.1 6
    simp [stC] at q0 q1 q2 q3 q4 q5 q6
    clear hwF HYF hg
    refine bodyPost_ret (v := .tuple #[.agg (stC 6 a' b' c' 0 v' (.slice none 0 0)), .bool RB]) (by simp [results, Tryd.results20, go_sem, q0, q1, q2, q3, q4, q5, q6]) rfl ⟨6, a', b', c', 0, v', none, 0, 0, ?_, hbF, fun st h => ⟨[], HF.out.2 st a' b' c' v' h (fun h1 => HS3.out (by first | exact HNL.out ▸ h1 | (have := HNL.out; have h2 : r.length = 2 := h1; omega))), rfl, NewInts.nil _ _⟩⟩
    rw [← HRB.out]
set_option maxHeartbeats 4000000 in
set_option maxRecDepth 100000 in
theorem qstep_k7 (v : List UInt8) (r : List (List UInt8)) (n ba oa : Nat) (w : World) (hn : r.length = n) (hw : WordsAt w w.heap.size (some ⟨ba, oa, none⟩) (v :: r)) (hl2 : n ≤ 1999) (hm : MaxAt w) (hv : v = verbB 7) :
    Calls Tryd.prog 20 #[.slice (some ⟨ba, oa, none⟩) (n + 1) (n + 1)] w (StepPost (v :: r) w) := by
  have HW := hid hw
  have HM := hid hm
  clear hw hm
  have hcv : ba < w.heap.size ∧ w.cell? ⟨ba, oa, none⟩ = some (.string (bstr v)) := by
    rcases HW.out.2 with e | ⟨ba', oa', e, h2, h3, h4⟩
    · cases e
    · obtain ⟨rfl, rfl, -⟩ := Addr.mk.inj (Option.some.inj e)
      exact ⟨h3, h4 0 v rfl⟩
  obtain ⟨hbw, hcv⟩ := hcv
  obtain ⟨BV, hBV⟩ : ∃ q, q = bstr v := ⟨_, rfl⟩
  rw [← hBV] at hcv
  have HBV := hid hBV
  clear hBV
  obtain ⟨W2, hW2⟩ : ∃ q, q = (w.alloc (.cells (stC 0 0 0 0 0 0 (.slice none 0 0)) 40)).alloc (.cells (stC 0 0 0 0 0 0 (.slice none 0 0)) 40) := ⟨_, rfl⟩
  have hb2 : Below w.heap.size w W2 := by rw [hW2]; exact ((Below.refl _ _).alloc (Nat.le_refl _) _).alloc (by simp) _
  have HB2 := hid hb2
  have HX2 := hid (show Blk W2 (w.heap.size + 1) (stC 0 0 0 0 0 0 (.slice none 0 0)) 40 by rw [hW2]; exact Blk.new' _ _ _ (by simp))
  have HY2 := hid (show Blk W2 w.heap.size (stC 0 0 0 0 0 0 (.slice none 0 0)) 40 by rw [hW2]; exact (Blk.new _ _ _).alloc _)
  have hs2 : W2.heap.size = w.heap.size + 1 + 1 := by rw [hW2]; simp
  clear hb2
  -- the words behind the first
  obtain ⟨A1, c1, hA1⟩ : ∃ (A1 : Addr) (c1 : Nat), (n = 0 → A1 = ⟨ba, oa, none⟩) ∧ (n ≠ 0 → A1 = ⟨ba, oa + 1, none⟩) := by
    by_cases q : n = 0
    · exact ⟨_, 0, fun _ => rfl, fun h => absurd q h⟩
    · exact ⟨_, 0, fun h => absurd h q, fun _ => rfl⟩
  have HT := hid (show ∀ b, ba ≠ b → WordsAt w b (some A1) r from fun b hb => by
    by_cases q : n = 0
    · have : r = [] := List.length_eq_zero_iff.1 (hn.trans q)
      rw [this]; exact ⟨fun l hl => (by cases hl), .inl rfl⟩
    · rw [hA1.2 q]
      have h0 : WordsAt w b (some ⟨ba, oa, none⟩) (v :: r) := ⟨HW.out.1, HW.out.2.imp id fun ⟨ba', oa', h1, h2, h3, h4⟩ => ⟨ba', oa', h1, by
        obtain ⟨rfl, rfl, -⟩ := Addr.mk.inj (Option.some.inj h1)
        exact hb, h3, h4⟩⟩
      exact h0.tail)
  have HWD := hid (HT.out (w.heap.size + 1) (by omega))
  have HV := hid hv
  have hk : kindR v = 7 := by rw [hv]; decide
  have HF := hid (step_fin (r := r) hk (by omega))
  clear hk hv
  have e1 : (BV.toList == [116, 97, 98, 108, 101]) = false := bsq_eqLF HBV.out (by rw [HV.out]; decide)
  have e2 : (BV.toList == [119, 104, 101, 114, 101]) = false := bsq_eqLF HBV.out (by rw [HV.out]; decide)
  have e3 : (BV.toList == [112, 105, 99, 107]) = false := bsq_eqLF HBV.out (by rw [HV.out]; decide)
  have e4 : (BV.toList == [106, 111, 105, 110]) = false := bsq_eqLF HBV.out (by rw [HV.out]; decide)
  have e5 : (BV.toList == [117, 110, 105, 111, 110]) = false := bsq_eqLF HBV.out (by rw [HV.out]; decide)
  have e6 : (BV.toList == [109, 105, 110, 117, 115]) = false := bsq_eqLF HBV.out (by rw [HV.out]; decide)
  have e7 : (BV.toList == [100, 105, 115, 116, 105, 110, 99, 116]) = true := bsq_eqLT HBV.out (HV.out.trans rfl)
  obtain ⟨C2, hC2⟩ : ∃ q : Array Value, q = #[.pointer (some ⟨w.heap.size + 1, 1, none⟩)] := ⟨_, rfl⟩
  have HA := hid (fun c1 => qread_st r [1] n 1 hn rfl (some A1) c1 1 (w.heap.size + 1 + 1) (w.heap.size + 1) 0 0 0 0 0 0 (.slice none 0 0) C2 40 61 (W2.alloc (.cells C2 61)) ((HWD.out.step HB2.out).step ((Below.refl _ _).alloc (Nat.le_refl _) _)) (by omega) (by omega)
    (HX2.out.alloc _) (by simp) (Blk.new' _ _ _ hs2.symm) (by rw [hC2]; rfl) (by omega))
  have HB3 := hid (HB2.out.alloc (by omega) (.cells C2 61))
  obtain ⟨RB, hRB⟩ : ∃ q, q = (decide (n = 1) && (numsR r).isSome) := ⟨_, rfl⟩
  rw [← hRB] at HA
  have HRB := hid (show RB = (stepR (v :: r)).isSome by rw [hRB, HF.out.1, hn]; rfl)
  have HNL := hid hn
  rw [hC2] at HA HB3
  clear hC2 hRB hn
  rcases Nat.eq_zero_or_pos n with h0 | h0
  · obtain rfl := hA1.1 h0
    subst h0
    clear hA1
    go_enter Tryd.func20, Tryd.ntmps20
    go_wp2_with fail
    rw [← hW2]
    -- STOP-k70
    refine (HA.out _).mono ?_
    rintro e w3 ⟨rfl, hg3, a', b', c', v', hx3, hs3⟩
    have HX3 := hid hx3
    have HY3 := hid ((HY2.out.alloc _).grown' hg3 (eq_false (fun e => by injection e with e; omega)))
    have HG3 := hid hg3
    have HS3 := hid hs3
    clear hx3 hg3 hs3
    obtain ⟨cHX3, fHX3, sHX3, nHX3⟩ := HX3.out.all
    try simp only [cbox] at cHX3
    obtain ⟨cHY3, fHY3, sHY3, nHY3⟩ := HY3.out.all
    try simp only [cbox] at cHY3
    go_wp2_with fail
    -- STOP-q70
    have hg : Below w.heap.size w w3 := Below.grown HB3.out HG3.out HB3.out.size (fun g e => by injection e with e; omega)
    obtain ⟨wF, hwF⟩ : ∃ q, q = qset7 (w3.setCell ⟨w.heap.size + 1, 0, none⟩ (.int .i64 7)) w.heap.size (.int .i64 7) (.int .i64 a') (.int .i64 b') (.int .i64 c') (.int .i64 0) (.int .i64 v') (.slice none 0 0) := ⟨_, rfl⟩
    have HYF : Blk wF w.heap.size (stC 7 a' b' c' 0 v' (.slice none 0 0)) 40 := by rw [hwF]; exact Blk.qset7 (HY3.out.other (a := ⟨w.heap.size + 1, 0, none⟩) (by simp) _) _ _ _ _ _ _ _
    have hbF : Below w.heap.size w wF := by
      rw [hwF]
      simp only [qset7]
      (repeat' (first | (with_reducible exact Below.refl _ _) | (with_reducible assumption) | (with_reducible refine below_drewN ?_ _) | (with_reducible refine Below.drew ?_) | (with_reducible refine Below.alloc ?_ ?_ _) | (with_reducible refine Below.setCell ?_ ?_ _) | (refine Below.trans ?_ (Below.mono (by assumption) ?_)) | go_size))
    simp only [qset7] at hwF
    rw [← hwF]
    clear cHX3 fHX3 sHX3 nHX3
    clear cHY3 fHY3 sHY3 nHY3
    have q0 := HYF.cells.1 0
    have q1 := HYF.cells.1 1
    have q2 := HYF.cells.1 2
    have q3 := HYF.cells.1 3
    have q4 := HYF.cells.1 4
    have q5 := HYF.cells.1 5
    have q6 := HYF.cells.1 6
    simp [stC] at q0 q1 q2 q3 q4 q5 q6
    clear hwF HYF hg
    refine bodyPost_ret (v := .tuple #[.agg (stC 7 a' b' c' 0 v' (.slice none 0 0)), .bool RB]) (by simp [results, Tryd.results20, go_sem, q0, q1, q2, q3, q4, q5, q6]) rfl ⟨7, a', b', c', 0, v', none, 0, 0, ?_, hbF, fun st h => ⟨[], HF.out.2 st a' b' c' v' h (fun h1 => HS3.out (by first | exact HNL.out ▸ h1 | (have := HNL.out; have h2 : r.length = 1 := h1; omega))), rfl, NewInts.nil _ _⟩⟩
    rw [← HRB.out]
  · have hz : (n = 0) = False := eq_false (by omega)
    have hz2 : (n + 1 = 1) = False := eq_false (by omega)
    have hz3 : (1 : Int) ≤ ((n + 1 : Nat) : Int) := by omega
    obtain rfl := hA1.2 (by omega)
    clear hA1
    go_enter Tryd.func20, Tryd.ntmps20
    go_wp2_with fail
    rw [← hW2]
    -- STOP-k71
    refine (HA.out _).mono ?_
    rintro e w3 ⟨rfl, hg3, a', b', c', v', hx3, hs3⟩
    have HX3 := hid hx3
    have HY3 := hid ((HY2.out.alloc _).grown' hg3 (eq_false (fun e => by injection e with e; omega)))
    have HG3 := hid hg3
    have HS3 := hid hs3
    clear hx3 hg3 hs3
    obtain ⟨cHX3, fHX3, sHX3, nHX3⟩ := HX3.out.all
    try simp only [cbox] at cHX3
    obtain ⟨cHY3, fHY3, sHY3, nHY3⟩ := HY3.out.all
    try simp only [cbox] at cHY3
    go_wp2_with fail
    -- STOP-q71
    have hg : Below w.heap.size w w3 := Below.grown HB3.out HG3.out HB3.out.size (fun g e => by injection e with e; omega)
    obtain ⟨wF, hwF⟩ : ∃ q, q = qset7 (w3.setCell ⟨w.heap.size + 1, 0, none⟩ (.int .i64 7)) w.heap.size (.int .i64 7) (.int .i64 a') (.int .i64 b') (.int .i64 c') (.int .i64 0) (.int .i64 v') (.slice none 0 0) := ⟨_, rfl⟩
    have HYF : Blk wF w.heap.size (stC 7 a' b' c' 0 v' (.slice none 0 0)) 40 := by rw [hwF]; exact Blk.qset7 (HY3.out.other (a := ⟨w.heap.size + 1, 0, none⟩) (by simp) _) _ _ _ _ _ _ _
    have hbF : Below w.heap.size w wF := by
      rw [hwF]
      simp only [qset7]
      (repeat' (first | (with_reducible exact Below.refl _ _) | (with_reducible assumption) | (with_reducible refine below_drewN ?_ _) | (with_reducible refine Below.drew ?_) | (with_reducible refine Below.alloc ?_ ?_ _) | (with_reducible refine Below.setCell ?_ ?_ _) | (refine Below.trans ?_ (Below.mono (by assumption) ?_)) | go_size))
    simp only [qset7] at hwF
    rw [← hwF]
    clear cHX3 fHX3 sHX3 nHX3
    clear cHY3 fHY3 sHY3 nHY3
    have q0 := HYF.cells.1 0
    have q1 := HYF.cells.1 1
    have q2 := HYF.cells.1 2
    have q3 := HYF.cells.1 3
    have q4 := HYF.cells.1 4
    have q5 := HYF.cells.1 5
    have q6 := HYF.cells.1 6
    simp [stC] at q0 q1 q2 q3 q4 q5 q6
    clear hwF HYF hg
    refine bodyPost_ret (v := .tuple #[.agg (stC 7 a' b' c' 0 v' (.slice none 0 0)), .bool RB]) (by simp [results, Tryd.results20, go_sem, q0, q1, q2, q3, q4, q5, q6]) rfl ⟨7, a', b', c', 0, v', none, 0, 0, ?_, hbF, fun st h => ⟨[], HF.out.2 st a' b' c' v' h (fun h1 => HS3.out (by first | exact HNL.out ▸ h1 | (have := HNL.out; have h2 : r.length = 1 := h1; omega))), rfl, NewInts.nil _ _⟩⟩
    rw [← HRB.out]
set_option maxHeartbeats 4000000 in
set_option maxRecDepth 100000 in
theorem qstep_k8 (v : List UInt8) (r : List (List UInt8)) (n ba oa : Nat) (w : World) (hn : r.length = n) (hw : WordsAt w w.heap.size (some ⟨ba, oa, none⟩) (v :: r)) (hl2 : n ≤ 1999) (hm : MaxAt w) (hv : v = verbB 8) :
    Calls Tryd.prog 20 #[.slice (some ⟨ba, oa, none⟩) (n + 1) (n + 1)] w (StepPost (v :: r) w) := by
  have HW := hid hw
  have HM := hid hm
  clear hw hm
  have hcv : ba < w.heap.size ∧ w.cell? ⟨ba, oa, none⟩ = some (.string (bstr v)) := by
    rcases HW.out.2 with e | ⟨ba', oa', e, h2, h3, h4⟩
    · cases e
    · obtain ⟨rfl, rfl, -⟩ := Addr.mk.inj (Option.some.inj e)
      exact ⟨h3, h4 0 v rfl⟩
  obtain ⟨hbw, hcv⟩ := hcv
  obtain ⟨BV, hBV⟩ : ∃ q, q = bstr v := ⟨_, rfl⟩
  rw [← hBV] at hcv
  have HBV := hid hBV
  clear hBV
  obtain ⟨W2, hW2⟩ : ∃ q, q = (w.alloc (.cells (stC 0 0 0 0 0 0 (.slice none 0 0)) 40)).alloc (.cells (stC 0 0 0 0 0 0 (.slice none 0 0)) 40) := ⟨_, rfl⟩
  have hb2 : Below w.heap.size w W2 := by rw [hW2]; exact ((Below.refl _ _).alloc (Nat.le_refl _) _).alloc (by simp) _
  have HB2 := hid hb2
  have HX2 := hid (show Blk W2 (w.heap.size + 1) (stC 0 0 0 0 0 0 (.slice none 0 0)) 40 by rw [hW2]; exact Blk.new' _ _ _ (by simp))
  have HY2 := hid (show Blk W2 w.heap.size (stC 0 0 0 0 0 0 (.slice none 0 0)) 40 by rw [hW2]; exact (Blk.new _ _ _).alloc _)
  have hs2 : W2.heap.size = w.heap.size + 1 + 1 := by rw [hW2]; simp
  clear hb2
  -- the words behind the first
  obtain ⟨A1, c1, hA1⟩ : ∃ (A1 : Addr) (c1 : Nat), (n = 0 → A1 = ⟨ba, oa, none⟩) ∧ (n ≠ 0 → A1 = ⟨ba, oa + 1, none⟩) := by
    by_cases q : n = 0
    · exact ⟨_, 0, fun _ => rfl, fun h => absurd q h⟩
    · exact ⟨_, 0, fun h => absurd h q, fun _ => rfl⟩
  have HT := hid (show ∀ b, ba ≠ b → WordsAt w b (some A1) r from fun b hb => by
    by_cases q : n = 0
    · have : r = [] := List.length_eq_zero_iff.1 (hn.trans q)
      rw [this]; exact ⟨fun l hl => (by cases hl), .inl rfl⟩
    · rw [hA1.2 q]
      have h0 : WordsAt w b (some ⟨ba, oa, none⟩) (v :: r) := ⟨HW.out.1, HW.out.2.imp id fun ⟨ba', oa', h1, h2, h3, h4⟩ => ⟨ba', oa', h1, by
        obtain ⟨rfl, rfl, -⟩ := Addr.mk.inj (Option.some.inj h1)
        exact hb, h3, h4⟩⟩
      exact h0.tail)
  have HWD := hid (HT.out (w.heap.size + 1) (by omega))
  have HV := hid hv
  have hk : kindR v = 8 := by rw [hv]; decide
  have HF := hid (step_fin (r := r) hk (by omega))
  clear hk hv
  have e1 : (BV.toList == [116, 97, 98, 108, 101]) = false := bsq_eqLF HBV.out (by rw [HV.out]; decide)
  have e2 : (BV.toList == [119, 104, 101, 114, 101]) = false := bsq_eqLF HBV.out (by rw [HV.out]; decide)
  have e3 : (BV.toList == [112, 105, 99, 107]) = false := bsq_eqLF HBV.out (by rw [HV.out]; decide)
  have e4 : (BV.toList == [106, 111, 105, 110]) = false := bsq_eqLF HBV.out (by rw [HV.out]; decide)
  have e5 : (BV.toList == [117, 110, 105, 111, 110]) = false := bsq_eqLF HBV.out (by rw [HV.out]; decide)
  have e6 : (BV.toList == [109, 105, 110, 117, 115]) = false := bsq_eqLF HBV.out (by rw [HV.out]; decide)
  have e7 : (BV.toList == [100, 105, 115, 116, 105, 110, 99, 116]) = false := bsq_eqLF HBV.out (by rw [HV.out]; decide)
  have e8 : (BV.toList == [99, 111, 117, 110, 116]) = true := bsq_eqLT HBV.out (HV.out.trans rfl)
  obtain ⟨C2, hC2⟩ : ∃ q : Array Value, q = #[.pointer (some ⟨w.heap.size + 1, 1, none⟩), .pointer (some ⟨w.heap.size + 1, 3, none⟩)] := ⟨_, rfl⟩
  have HA := hid (fun c1 => qread_st r [1, 3] n 2 hn rfl (some A1) c1 2 (w.heap.size + 1 + 1) (w.heap.size + 1) 0 0 0 0 0 0 (.slice none 0 0) C2 40 61 (W2.alloc (.cells C2 61)) ((HWD.out.step HB2.out).step ((Below.refl _ _).alloc (Nat.le_refl _) _)) (by omega) (by omega)
    (HX2.out.alloc _) (by simp) (Blk.new' _ _ _ hs2.symm) (by rw [hC2]; rfl) (by omega))
  have HB3 := hid (HB2.out.alloc (by omega) (.cells C2 61))
  obtain ⟨RB, hRB⟩ : ∃ q, q = (decide (n = 2) && (numsR r).isSome) := ⟨_, rfl⟩
  rw [← hRB] at HA
  have HRB := hid (show RB = (stepR (v :: r)).isSome by rw [hRB, HF.out.1, hn]; rfl)
  have HNL := hid hn
  rw [hC2] at HA HB3
  clear hC2 hRB hn
  rcases Nat.eq_zero_or_pos n with h0 | h0
  · obtain rfl := hA1.1 h0
    subst h0
    clear hA1
    go_enter Tryd.func20, Tryd.ntmps20
    go_wp2_with fail
    rw [← hW2]
    -- STOP-k80
    refine (HA.out _).mono ?_
    rintro e w3 ⟨rfl, hg3, a', b', c', v', hx3, hs3⟩
    have HX3 := hid hx3
    have HY3 := hid ((HY2.out.alloc _).grown' hg3 (eq_false (fun e => by injection e with e; omega)))
    have HG3 := hid hg3
    have HS3 := hid hs3
    clear hx3 hg3 hs3
    obtain ⟨cHX3, fHX3, sHX3, nHX3⟩ := HX3.out.all
    try simp only [cbox] at cHX3
    obtain ⟨cHY3, fHY3, sHY3, nHY3⟩ := HY3.out.all
    try simp only [cbox] at cHY3
    go_wp2_with fail
    -- STOP-q80
    have hg : Below w.heap.size w w3 := Below.grown HB3.out HG3.out HB3.out.size (fun g e => by injection e with e; omega)
    obtain ⟨wF, hwF⟩ : ∃ q, q = qset7 (w3.setCell ⟨w.heap.size + 1, 0, none⟩ (.int .i64 8)) w.heap.size (.int .i64 8) (.int .i64 a') (.int .i64 b') (.int .i64 c') (.int .i64 0) (.int .i64 v') (.slice none 0 0) := ⟨_, rfl⟩
    have HYF : Blk wF w.heap.size (stC 8 a' b' c' 0 v' (.slice none 0 0)) 40 := by rw [hwF]; exact Blk.qset7 (HY3.out.other (a := ⟨w.heap.size + 1, 0, none⟩) (by simp) _) _ _ _ _ _ _ _
    have hbF : Below w.heap.size w wF := by
      rw [hwF]
      simp only [qset7]
      (repeat' (first | (with_reducible exact Below.refl _ _) | (with_reducible assumption) | (with_reducible refine below_drewN ?_ _) | (with_reducible refine Below.drew ?_) | (with_reducible refine Below.alloc ?_ ?_ _) | (with_reducible refine Below.setCell ?_ ?_ _) | (refine Below.trans ?_ (Below.mono (by assumption) ?_)) | go_size))
    simp only [qset7] at hwF
    rw [← hwF]
    clear cHX3 fHX3 sHX3 nHX3
    clear cHY3 fHY3 sHY3 nHY3
    have q0 := HYF.cells.1 0
    have q1 := HYF.cells.1 1
    have q2 := HYF.cells.1 2
    have q3 := HYF.cells.1 3
    have q4 := HYF.cells.1 4
    have q5 := HYF.cells.1 5
    have q6 := HYF.cells.1 6
    simp [stC] at q0 q1 q2 q3 q4 q5 q6
    clear hwF HYF hg
    refine bodyPost_ret (v := .tuple #[.agg (stC 8 a' b' c' 0 v' (.slice none 0 0)), .bool RB]) (by simp [results, Tryd.results20, go_sem, q0, q1, q2, q3, q4, q5, q6]) rfl ⟨8, a', b', c', 0, v', none, 0, 0, ?_, hbF, fun st h => ⟨[], HF.out.2 st a' b' c' v' h (fun h1 => HS3.out (by first | exact HNL.out ▸ h1 | (have := HNL.out; have h2 : r.length = 2 := h1; omega))), rfl, NewInts.nil _ _⟩⟩
    rw [← HRB.out]
  · have hz : (n = 0) = False := eq_false (by omega)
    have hz2 : (n + 1 = 1) = False := eq_false (by omega)
    have hz3 : (1 : Int) ≤ ((n + 1 : Nat) : Int) := by omega
    obtain rfl := hA1.2 (by omega)
    clear hA1
    go_enter Tryd.func20, Tryd.ntmps20
    go_wp2_with fail
    rw [← hW2]
    -- STOP-k81
    refine (HA.out _).mono ?_
    rintro e w3 ⟨rfl, hg3, a', b', c', v', hx3, hs3⟩
    have HX3 := hid hx3
    have HY3 := hid ((HY2.out.alloc _).grown' hg3 (eq_false (fun e => by injection e with e; omega)))
    have HG3 := hid hg3
    have HS3 := hid hs3
    clear hx3 hg3 hs3
    obtain ⟨cHX3, fHX3, sHX3, nHX3⟩ := HX3.out.all
    try simp only [cbox] at cHX3
    obtain ⟨cHY3, fHY3, sHY3, nHY3⟩ := HY3.out.all
    try simp only [cbox] at cHY3
    go_wp2_with fail
    -- STOP-q81
    have hg : Below w.heap.size w w3 := Below.grown HB3.out HG3.out HB3.out.size (fun g e => by injection e with e; omega)
    obtain ⟨wF, hwF⟩ : ∃ q, q = qset7 (w3.setCell ⟨w.heap.size + 1, 0, none⟩ (.int .i64 8)) w.heap.size (.int .i64 8) (.int .i64 a') (.int .i64 b') (.int .i64 c') (.int .i64 0) (.int .i64 v') (.slice none 0 0) := ⟨_, rfl⟩
    have HYF : Blk wF w.heap.size (stC 8 a' b' c' 0 v' (.slice none 0 0)) 40 := by rw [hwF]; exact Blk.qset7 (HY3.out.other (a := ⟨w.heap.size + 1, 0, none⟩) (by simp) _) _ _ _ _ _ _ _
    have hbF : Below w.heap.size w wF := by
      rw [hwF]
      simp only [qset7]
      (repeat' (first | (with_reducible exact Below.refl _ _) | (with_reducible assumption) | (with_reducible refine below_drewN ?_ _) | (with_reducible refine Below.drew ?_) | (with_reducible refine Below.alloc ?_ ?_ _) | (with_reducible refine Below.setCell ?_ ?_ _) | (refine Below.trans ?_ (Below.mono (by assumption) ?_)) | go_size))
    simp only [qset7] at hwF
    rw [← hwF]
    clear cHX3 fHX3 sHX3 nHX3
    clear cHY3 fHY3 sHY3 nHY3
    have q0 := HYF.cells.1 0
    have q1 := HYF.cells.1 1
    have q2 := HYF.cells.1 2
    have q3 := HYF.cells.1 3
    have q4 := HYF.cells.1 4
    have q5 := HYF.cells.1 5
    have q6 := HYF.cells.1 6
    simp [stC] at q0 q1 q2 q3 q4 q5 q6
    clear hwF HYF hg
    refine bodyPost_ret (v := .tuple #[.agg (stC 8 a' b' c' 0 v' (.slice none 0 0)), .bool RB]) (by simp [results, Tryd.results20, go_sem, q0, q1, q2, q3, q4, q5, q6]) rfl ⟨8, a', b', c', 0, v', none, 0, 0, ?_, hbF, fun st h => ⟨[], HF.out.2 st a' b' c' v' h (fun h1 => HS3.out (by first | exact HNL.out ▸ h1 | (have := HNL.out; have h2 : r.length = 2 := h1; omega))), rfl, NewInts.nil _ _⟩⟩
    rw [← HRB.out]
set_option maxHeartbeats 4000000 in
set_option maxRecDepth 100000 in
theorem qstep_k9 (v : List UInt8) (r : List (List UInt8)) (n ba oa : Nat) (w : World) (hn : r.length = n) (hw : WordsAt w w.heap.size (some ⟨ba, oa, none⟩) (v :: r)) (hl2 : n ≤ 1999) (hm : MaxAt w) (hv : v = verbB 9) :
    Calls Tryd.prog 20 #[.slice (some ⟨ba, oa, none⟩) (n + 1) (n + 1)] w (StepPost (v :: r) w) := by
  have HW := hid hw
  have HM := hid hm
  clear hw hm
  have hcv : ba < w.heap.size ∧ w.cell? ⟨ba, oa, none⟩ = some (.string (bstr v)) := by
    rcases HW.out.2 with e | ⟨ba', oa', e, h2, h3, h4⟩
    · cases e
    · obtain ⟨rfl, rfl, -⟩ := Addr.mk.inj (Option.some.inj e)
      exact ⟨h3, h4 0 v rfl⟩
  obtain ⟨hbw, hcv⟩ := hcv
  obtain ⟨BV, hBV⟩ : ∃ q, q = bstr v := ⟨_, rfl⟩
  rw [← hBV] at hcv
  have HBV := hid hBV
  clear hBV
  obtain ⟨W2, hW2⟩ : ∃ q, q = (w.alloc (.cells (stC 0 0 0 0 0 0 (.slice none 0 0)) 40)).alloc (.cells (stC 0 0 0 0 0 0 (.slice none 0 0)) 40) := ⟨_, rfl⟩
  have hb2 : Below w.heap.size w W2 := by rw [hW2]; exact ((Below.refl _ _).alloc (Nat.le_refl _) _).alloc (by simp) _
  have HB2 := hid hb2
  have HX2 := hid (show Blk W2 (w.heap.size + 1) (stC 0 0 0 0 0 0 (.slice none 0 0)) 40 by rw [hW2]; exact Blk.new' _ _ _ (by simp))
  have HY2 := hid (show Blk W2 w.heap.size (stC 0 0 0 0 0 0 (.slice none 0 0)) 40 by rw [hW2]; exact (Blk.new _ _ _).alloc _)
  have hs2 : W2.heap.size = w.heap.size + 1 + 1 := by rw [hW2]; simp
  clear hb2
  -- the words behind the first
  obtain ⟨A1, c1, hA1⟩ : ∃ (A1 : Addr) (c1 : Nat), (n = 0 → A1 = ⟨ba, oa, none⟩) ∧ (n ≠ 0 → A1 = ⟨ba, oa + 1, none⟩) := by
    by_cases q : n = 0
    · exact ⟨_, 0, fun _ => rfl, fun h => absurd q h⟩
    · exact ⟨_, 0, fun h => absurd h q, fun _ => rfl⟩
  have HT := hid (show ∀ b, ba ≠ b → WordsAt w b (some A1) r from fun b hb => by
    by_cases q : n = 0
    · have : r = [] := List.length_eq_zero_iff.1 (hn.trans q)
      rw [this]; exact ⟨fun l hl => (by cases hl), .inl rfl⟩
    · rw [hA1.2 q]
      have h0 : WordsAt w b (some ⟨ba, oa, none⟩) (v :: r) := ⟨HW.out.1, HW.out.2.imp id fun ⟨ba', oa', h1, h2, h3, h4⟩ => ⟨ba', oa', h1, by
        obtain ⟨rfl, rfl, -⟩ := Addr.mk.inj (Option.some.inj h1)
        exact hb, h3, h4⟩⟩
      exact h0.tail)
  have HWD := hid (HT.out (w.heap.size + 1) (by omega))
  have HV := hid hv
  have hk : kindR v = 9 := by rw [hv]; decide
  have HF := hid (step_fin (r := r) hk (by omega))
  clear hk hv
  have e1 : (BV.toList == [116, 97, 98, 108, 101]) = false := bsq_eqLF HBV.out (by rw [HV.out]; decide)
  have e2 : (BV.toList == [119, 104, 101, 114, 101]) = false := bsq_eqLF HBV.out (by rw [HV.out]; decide)
  have e3 : (BV.toList == [112, 105, 99, 107]) = false := bsq_eqLF HBV.out (by rw [HV.out]; decide)
  have e4 : (BV.toList == [106, 111, 105, 110]) = false := bsq_eqLF HBV.out (by rw [HV.out]; decide)
  have e5 : (BV.toList == [117, 110, 105, 111, 110]) = false := bsq_eqLF HBV.out (by rw [HV.out]; decide)
  have e6 : (BV.toList == [109, 105, 110, 117, 115]) = false := bsq_eqLF HBV.out (by rw [HV.out]; decide)
  have e7 : (BV.toList == [100, 105, 115, 116, 105, 110, 99, 116]) = false := bsq_eqLF HBV.out (by rw [HV.out]; decide)
  have e8 : (BV.toList == [99, 111, 117, 110, 116]) = false := bsq_eqLF HBV.out (by rw [HV.out]; decide)
  have e9 : (BV.toList == [115, 117, 109]) = true := bsq_eqLT HBV.out (HV.out.trans rfl)
  obtain ⟨C2, hC2⟩ : ∃ q : Array Value, q = #[.pointer (some ⟨w.heap.size + 1, 1, none⟩), .pointer (some ⟨w.heap.size + 1, 3, none⟩), .pointer (some ⟨w.heap.size + 1, 5, none⟩)] := ⟨_, rfl⟩
  have HA := hid (fun c1 => qread_st r [1, 3, 5] n 3 hn rfl (some A1) c1 3 (w.heap.size + 1 + 1) (w.heap.size + 1) 0 0 0 0 0 0 (.slice none 0 0) C2 40 61 (W2.alloc (.cells C2 61)) ((HWD.out.step HB2.out).step ((Below.refl _ _).alloc (Nat.le_refl _) _)) (by omega) (by omega)
    (HX2.out.alloc _) (by simp) (Blk.new' _ _ _ hs2.symm) (by rw [hC2]; rfl) (by omega))
  have HB3 := hid (HB2.out.alloc (by omega) (.cells C2 61))
  obtain ⟨RB, hRB⟩ : ∃ q, q = (decide (n = 3) && (numsR r).isSome) := ⟨_, rfl⟩
  rw [← hRB] at HA
  have HRB := hid (show RB = (stepR (v :: r)).isSome by rw [hRB, HF.out.1, hn]; rfl)
  have HNL := hid hn
  rw [hC2] at HA HB3
  clear hC2 hRB hn
  rcases Nat.eq_zero_or_pos n with h0 | h0
  · obtain rfl := hA1.1 h0
    subst h0
    clear hA1
    go_enter Tryd.func20, Tryd.ntmps20
    go_wp2_with fail
    rw [← hW2]
    -- STOP-k90
    refine (HA.out _).mono ?_
    rintro e w3 ⟨rfl, hg3, a', b', c', v', hx3, hs3⟩
    have HX3 := hid hx3
    have HY3 := hid ((HY2.out.alloc _).grown' hg3 (eq_false (fun e => by injection e with e; omega)))
    have HG3 := hid hg3
    have HS3 := hid hs3
    clear hx3 hg3 hs3
    obtain ⟨cHX3, fHX3, sHX3, nHX3⟩ := HX3.out.all
    try simp only [cbox] at cHX3
    obtain ⟨cHY3, fHY3, sHY3, nHY3⟩ := HY3.out.all
    try simp only [cbox] at cHY3
    go_wp2_with fail
    -- STOP-q90
    have hg : Below w.heap.size w w3 := Below.grown HB3.out HG3.out HB3.out.size (fun g e => by injection e with e; omega)
    obtain ⟨wF, hwF⟩ : ∃ q, q = qset7 (w3.setCell ⟨w.heap.size + 1, 0, none⟩ (.int .i64 9)) w.heap.size (.int .i64 9) (.int .i64 a') (.int .i64 b') (.int .i64 c') (.int .i64 0) (.int .i64 v') (.slice none 0 0) := ⟨_, rfl⟩
    have HYF : Blk wF w.heap.size (stC 9 a' b' c' 0 v' (.slice none 0 0)) 40 := by rw [hwF]; exact Blk.qset7 (HY3.out.other (a := ⟨w.heap.size + 1, 0, none⟩) (by simp) _) _ _ _ _ _ _ _
    have hbF : Below w.heap.size w wF := by
      rw [hwF]
      simp only [qset7]
      (repeat' (first | (with_reducible exact Below.refl _ _) | (with_reducible assumption) | (with_reducible refine below_drewN ?_ _) | (with_reducible refine Below.drew ?_) | (with_reducible refine Below.alloc ?_ ?_ _) | (with_reducible refine Below.setCell ?_ ?_ _) | (refine Below.trans ?_ (Below.mono (by assumption) ?_)) | go_size))
    simp only [qset7] at hwF
    rw [← hwF]
    clear cHX3 fHX3 sHX3 nHX3
    clear cHY3 fHY3 sHY3 nHY3
    have q0 := HYF.cells.1 0
    have q1 := HYF.cells.1 1
    have q2 := HYF.cells.1 2
    have q3 := HYF.cells.1 3
    have q4 := HYF.cells.1 4
    have q5 := HYF.cells.1 5
    have q6 := HYF.cells.1 6
    simp [stC] at q0 q1 q2 q3 q4 q5 q6
    clear hwF HYF hg
    refine bodyPost_ret (v := .tuple #[.agg (stC 9 a' b' c' 0 v' (.slice none 0 0)), .bool RB]) (by simp [results, Tryd.results20, go_sem, q0, q1, q2, q3, q4, q5, q6]) rfl ⟨9, a', b', c', 0, v', none, 0, 0, ?_, hbF, fun st h => ⟨[], HF.out.2 st a' b' c' v' h (fun h1 => HS3.out (by first | exact HNL.out ▸ h1 | (have := HNL.out; have h2 : r.length = 3 := h1; omega))), rfl, NewInts.nil _ _⟩⟩
    rw [← HRB.out]
  · have hz : (n = 0) = False := eq_false (by omega)
    have hz2 : (n + 1 = 1) = False := eq_false (by omega)
    have hz3 : (1 : Int) ≤ ((n + 1 : Nat) : Int) := by omega
    obtain rfl := hA1.2 (by omega)
    clear hA1
    go_enter Tryd.func20, Tryd.ntmps20
    go_wp2_with fail
    rw [← hW2]
    -- STOP-k91
    refine (HA.out _).mono ?_
    rintro e w3 ⟨rfl, hg3, a', b', c', v', hx3, hs3⟩
    have HX3 := hid hx3
    have HY3 := hid ((HY2.out.alloc _).grown' hg3 (eq_false (fun e => by injection e with e; omega)))
    have HG3 := hid hg3
    have HS3 := hid hs3
    clear hx3 hg3 hs3
    obtain ⟨cHX3, fHX3, sHX3, nHX3⟩ := HX3.out.all
    try simp only [cbox] at cHX3
    obtain ⟨cHY3, fHY3, sHY3, nHY3⟩ := HY3.out.all
    try simp only [cbox] at cHY3
    go_wp2_with fail
    -- STOP-q91
    have hg : Below w.heap.size w w3 := Below.grown HB3.out HG3.out HB3.out.size (fun g e => by injection e with e; omega)
    obtain ⟨wF, hwF⟩ : ∃ q, q = qset7 (w3.setCell ⟨w.heap.size + 1, 0, none⟩ (.int .i64 9)) w.heap.size (.int .i64 9) (.int .i64 a') (.int .i64 b') (.int .i64 c') (.int .i64 0) (.int .i64 v') (.slice none 0 0) := ⟨_, rfl⟩
    have HYF : Blk wF w.heap.size (stC 9 a' b' c' 0 v' (.slice none 0 0)) 40 := by rw [hwF]; exact Blk.qset7 (HY3.out.other (a := ⟨w.heap.size + 1, 0, none⟩) (by simp) _) _ _ _ _ _ _ _
    have hbF : Below w.heap.size w wF := by
      rw [hwF]
      simp only [qset7]
      (repeat' (first | (with_reducible exact Below.refl _ _) | (with_reducible assumption) | (with_reducible refine below_drewN ?_ _) | (with_reducible refine Below.drew ?_) | (with_reducible refine Below.alloc ?_ ?_ _) | (with_reducible refine Below.setCell ?_ ?_ _) | (refine Below.trans ?_ (Below.mono (by assumption) ?_)) | go_size))
    simp only [qset7] at hwF
    rw [← hwF]
    clear cHX3 fHX3 sHX3 nHX3
    clear cHY3 fHY3 sHY3 nHY3
    have q0 := HYF.cells.1 0
    have q1 := HYF.cells.1 1
    have q2 := HYF.cells.1 2
    have q3 := HYF.cells.1 3
    have q4 := HYF.cells.1 4
    have q5 := HYF.cells.1 5
    have q6 := HYF.cells.1 6
    simp [stC] at q0 q1 q2 q3 q4 q5 q6
    clear hwF HYF hg
    refine bodyPost_ret (v := .tuple #[.agg (stC 9 a' b' c' 0 v' (.slice none 0 0)), .bool RB]) (by simp [results, Tryd.results20, go_sem, q0, q1, q2, q3, q4, q5, q6]) rfl ⟨9, a', b', c', 0, v', none, 0, 0, ?_, hbF, fun st h => ⟨[], HF.out.2 st a' b' c' v' h (fun h1 => HS3.out (by first | exact HNL.out ▸ h1 | (have := HNL.out; have h2 : r.length = 3 := h1; omega))), rfl, NewInts.nil _ _⟩⟩
    rw [← HRB.out]
end Go.Proofs.YtamlaeocojcgdaaDoor
