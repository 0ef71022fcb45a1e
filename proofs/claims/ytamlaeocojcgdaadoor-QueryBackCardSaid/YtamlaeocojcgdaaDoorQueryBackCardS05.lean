/- QbQ, QbR, QtB, QtC, ZgP, PlQ -/
import Derived.Test.YtamlaeocojcgdaaDoorQueryBackCardS04
import Derived.Deep.RegionHeld3
/- Steps: printed and read, read and printed. No program in sight. -/
namespace Go.Proofs.YtamlaeocojcgdaaDoor
set_option linter.unusedVariables false
set_option linter.unusedSimpArgs false

/-- A step's words. -/
def wordsT (s : St) : List (List UInt8) := verbB s.kind :: Lib.itoa s.a ::
  (if s.kind = 2 then [Lib.itoa s.col, signB s.op, Lib.itoa s.val] else if s.kind = 3 then [commaT s.list] else if s.kind = 4 then [Lib.itoa s.b, Lib.itoa s.col, Lib.itoa s.val]
   else if s.kind = 5 ∨ s.kind = 6 then [Lib.itoa s.b] else if s.kind = 8 then [Lib.itoa s.col] else if s.kind = 9 then [Lib.itoa s.col, Lib.itoa s.val] else [])
/-- A step whose unused numbers are noughts. -/
structure StCan (s : St) : Prop where
  kind : 1 ≤ s.kind ∧ s.kind ≤ 9
  op : s.kind ≠ 2 → s.op = 0
  op2 : s.kind = 2 → 1 ≤ s.op ∧ s.op ≤ 3
  list : s.kind ≠ 3 → s.list = []
  list3 : s.kind = 3 → s.list ≠ []
  b : s.kind ≠ 4 → s.kind ≠ 5 → s.kind ≠ 6 → s.b = 0
  col : s.kind ≠ 2 → s.kind ≠ 4 → s.kind ≠ 8 → s.kind ≠ 9 → s.col = 0
  val : s.kind ≠ 2 → s.kind ≠ 4 → s.kind ≠ 9 → s.val = 0
theorem stepT_words {s : St} (hk : 1 ≤ s.kind ∧ s.kind ≤ 9) (hl : s.kind = 3 → s.list ≠ []) : stepT s = joinC 32 (wordsT s) ++ [10] := by
  have h : s.kind = 1 ∨ s.kind = 2 ∨ s.kind = 3 ∨ s.kind = 4 ∨ s.kind = 5 ∨ s.kind = 6 ∨ s.kind = 7 ∨ s.kind = 8 ∨ s.kind = 9 := by omega
  rcases h with h | h | h | h | h | h | h | h | h
  all_goals
    first
    | (have h3 := hl h
       have h4 : ¬ s.list.length = 0 := fun e => h3 (List.length_eq_zero_iff.1 e)
       simp [stepT, argsT, wordsT, numT, joinC, h, h4]
       done)
    | simp [stepT, argsT, wordsT, numT, joinC, h]
theorem verb_no (k : Int) (c : UInt8) (hc : c = 32 ∨ c = 10 ∨ c = 44) : c ∉ verbB k := by
  unfold verbB
  repeat' split
  all_goals (rcases hc with rfl | rfl | rfl <;> decide)
theorem sign_no (k : Int) (c : UInt8) (hc : c = 32 ∨ c = 10) : c ∉ signB k := by
  unfold signB
  repeat' split
  all_goals (rcases hc with rfl | rfl <;> decide)
theorem comma_no (l : List Int) (c : UInt8) (hc : c = 32 ∨ c = 10) : c ∉ commaT l := by
  have hi : ∀ n, c ∉ Lib.itoa n := fun n => by rcases hc with rfl | rfl <;> exact itoa_no (by decide) (by decide) n
  have ht : ∀ l, c ∉ tailC l := fun l => by
    induction l with
    | nil => simp [tailC]
    | cons n l ih =>
      simp only [tailC, List.mem_append, List.mem_cons, not_or]
      exact ⟨⟨by rcases hc with rfl | rfl <;> decide, hi n⟩, ih⟩
  cases l with
  | nil => simp [commaT]
  | cons n l =>
    simp only [commaT, List.mem_append, not_or]
    exact ⟨hi n, ht l⟩
theorem words_no (s : St) (c : UInt8) (hc : c = 32 ∨ c = 10) : ∀ w ∈ wordsT s, c ∉ w := by
  have hi : ∀ n, c ∉ Lib.itoa n := fun n => by rcases hc with rfl | rfl <;> exact itoa_no (by decide) (by decide) n
  have hv := verb_no s.kind c (by rcases hc with h | h; exact .inl h; exact .inr (.inl h))
  intro w hw
  unfold wordsT at hw
  rcases List.mem_cons.1 hw with rfl | hw
  · exact hv
  rcases List.mem_cons.1 hw with rfl | hw
  · exact hi _
  revert hw
  repeat' split
  all_goals
    intro hw
    simp only [List.mem_cons, List.not_mem_nil, or_false] at hw
  · rcases hw with rfl | rfl | rfl
    · exact hi _
    · exact sign_no _ c hc
    · exact hi _
  · rw [hw]; exact comma_no _ c hc
  · rcases hw with rfl | rfl | rfl <;> exact hi _
  · rw [hw]; exact hi _
  · rw [hw]; exact hi _
  · rcases hw with rfl | rfl <;> exact hi _
theorem join_no {c : UInt8} (h32 : c ≠ 32) : ∀ {ws : List (List UInt8)}, (∀ w ∈ ws, c ∉ w) → c ∉ joinC 32 ws
  | [], _ => by simp [joinC]
  | [x], h => h x (by simp)
  | x :: y :: r, h => by
    rw [joinC_cons (by simp)]
    simp only [List.mem_append, List.mem_cons, not_or]
    exact ⟨h x (by simp), h32, join_no h32 (fun w hw => h w (by simp [hw]))⟩
theorem kindR_verb {k : Int} (h : 1 ≤ k ∧ k ≤ 9) : kindR (verbB k) = k := by
  have : k = 1 ∨ k = 2 ∨ k = 3 ∨ k = 4 ∨ k = 5 ∨ k = 6 ∨ k = 7 ∨ k = 8 ∨ k = 9 := by omega
  rcases this with rfl | rfl | rfl | rfl | rfl | rfl | rfl | rfl | rfl <;> decide
theorem verb_kindR {v : List UInt8} (h : kindR v ≠ 0) : verbB (kindR v) = v ∧ 1 ≤ kindR v ∧ kindR v ≤ 9 := by
  unfold kindR at h ⊢
  by_cases h1 : v = verbB 1
  · rw [if_pos h1]; exact ⟨h1.symm, by decide⟩
  rw [if_neg h1] at h ⊢
  by_cases h2 : v = verbB 2
  · rw [if_pos h2]; exact ⟨h2.symm, by decide⟩
  rw [if_neg h2] at h ⊢
  by_cases h3 : v = verbB 3
  · rw [if_pos h3]; exact ⟨h3.symm, by decide⟩
  rw [if_neg h3] at h ⊢
  by_cases h4 : v = verbB 4
  · rw [if_pos h4]; exact ⟨h4.symm, by decide⟩
  rw [if_neg h4] at h ⊢
  by_cases h5 : v = verbB 5
  · rw [if_pos h5]; exact ⟨h5.symm, by decide⟩
  rw [if_neg h5] at h ⊢
  by_cases h6 : v = verbB 6
  · rw [if_pos h6]; exact ⟨h6.symm, by decide⟩
  rw [if_neg h6] at h ⊢
  by_cases h7 : v = verbB 7
  · rw [if_pos h7]; exact ⟨h7.symm, by decide⟩
  rw [if_neg h7] at h ⊢
  by_cases h8 : v = verbB 8
  · rw [if_pos h8]; exact ⟨h8.symm, by decide⟩
  rw [if_neg h8] at h ⊢
  by_cases h9 : v = verbB 9
  · rw [if_pos h9]; exact ⟨h9.symm, by decide⟩
  rw [if_neg h9] at h
  exact absurd rfl h
theorem signR_sign {p : Int} (h : 1 ≤ p ∧ p ≤ 3) : signR (signB p) = some p := by
  have : p = 1 ∨ p = 2 ∨ p = 3 := by omega
  rcases this with rfl | rfl | rfl <;> decide
theorem sign_signR {o : List UInt8} {p : Int} (h : signR o = some p) : signB p = o ∧ 1 ≤ p ∧ p ≤ 3 := by
  unfold signR at h
  split at h
  · next q => rw [← Option.some.inj h, q]; decide
  · split at h
    · next q => rw [← Option.some.inj h, q]; decide
    · split at h
      · next q => rw [← Option.some.inj h, q]; decide
      · cases h
def Small10 (n : Int) : Prop := -10000000000 < n ∧ n < 10000000000
/-- The words of a step are read as that step. -/
theorem stepR_words {s : St} (hc : StCan s) (ha : Small10 s.a) (hb : Small10 s.b) (hcol : Small10 s.col) (hv : Small10 s.val) (hl : ∀ n ∈ s.list, Small10 n) : stepR (wordsT s) = some s := by
  obtain ⟨k, a, b, col, op, val, l⟩ := s
  obtain ⟨hk, h1, h2, h3, h4, h5, h6, h7⟩ := hc
  simp only at *
  have hkr := kindR_verb hk
  have hns : ∀ ns : List Int, (∀ n ∈ ns, Small10 n) → numsR (ns.map Lib.itoa) = some ns := fun ns h => numsR_map h
  have h : k = 1 ∨ k = 2 ∨ k = 3 ∨ k = 4 ∨ k = 5 ∨ k = 6 ∨ k = 7 ∨ k = 8 ∨ k = 9 := by omega
  rcases h with rfl | rfl | rfl | rfl | rfl | rfl | rfl | rfl | rfl
  · have e := hns [a] (by simp [ha])
    simp only [List.map_cons, List.map_nil] at e
    have : l = [] := h3 (by decide)
    simp [wordsT, stepR, hkr, e, mkR, h1, h5, h6, h7, this]
  · have e := hns [a, col, val] (by simp [ha, hcol, hv])
    simp only [List.map_cons, List.map_nil] at e
    have : l = [] := h3 (by decide)
    simp [wordsT, stepR, hkr, e, mkR, signR_sign (h2 rfl), h5, this]
  · have e := hns [a] (by simp [ha])
    have e2 := hns l hl
    have e3 : pcs 44 (commaT l) = l.map Lib.itoa := by
      rw [commaT_join (h4 rfl)]
      exact pcs_join (by simpa using h4 rfl) (fun w hw => by
        obtain ⟨n, -, rfl⟩ := List.mem_map.1 hw
        exact itoa_no (by decide) (by decide) n)
    simp only [List.map_cons, List.map_nil] at e
    simp [wordsT, stepR, hkr, e, e2, e3, mkR, h1, h5, h6, h7]
  · have e := hns [a, b, col, val] (by simp [ha, hb, hcol, hv])
    simp only [List.map_cons, List.map_nil] at e
    have : l = [] := h3 (by decide)
    simp [wordsT, stepR, hkr, e, mkR, h1, this]
  · have e := hns [a, b] (by simp [ha, hb])
    simp only [List.map_cons, List.map_nil] at e
    have : l = [] := h3 (by decide)
    simp [wordsT, stepR, hkr, e, mkR, h1, h6, h7, this]
  · have e := hns [a, b] (by simp [ha, hb])
    simp only [List.map_cons, List.map_nil] at e
    have : l = [] := h3 (by decide)
    simp [wordsT, stepR, hkr, e, mkR, h1, h6, h7, this]
  · have e := hns [a] (by simp [ha])
    simp only [List.map_cons, List.map_nil] at e
    have : l = [] := h3 (by decide)
    simp [wordsT, stepR, hkr, e, mkR, h1, h5, h6, h7, this]
  · have e := hns [a, col] (by simp [ha, hcol])
    simp only [List.map_cons, List.map_nil] at e
    have : l = [] := h3 (by decide)
    simp [wordsT, stepR, hkr, e, mkR, h1, h5, h7, this]
  · have e := hns [a, col, val] (by simp [ha, hcol, hv])
    simp only [List.map_cons, List.map_nil] at e
    have : l = [] := h3 (by decide)
    simp [wordsT, stepR, hkr, e, mkR, h1, h5, this]
end Go.Proofs.YtamlaeocojcgdaaDoor
/- Queries: printed and read, read and printed. No program in sight. -/
namespace Go.Proofs.YtamlaeocojcgdaaDoor
set_option linter.unusedVariables false
set_option linter.unusedSimpArgs false

/-- Words that are read as a step are that step's words. -/
theorem words_stepR {ws : List (List UInt8)} {s : St} (h : stepR ws = some s) : wordsT s = ws ∧ 1 ≤ s.kind ∧ s.kind ≤ 9 ∧ (s.kind = 3 → s.list ≠ []) := by
  cases ws with
  | nil => cases h
  | cons v r =>
    by_cases h2 : kindR v = 2
    · obtain ⟨hv, -⟩ := verb_kindR (v := v) (by omega)
      rw [h2] at hv
      match r, h with
      | [], h => simp [stepR, h2] at h
      | [_], h => simp [stepR, h2] at h
      | [_, _], h => simp [stepR, h2] at h
      | [_, _, _], h => simp [stepR, h2] at h
      | _ :: _ :: _ :: _ :: _ :: _, h => simp [stepR, h2] at h
      | [x, y, o, z], h =>
        simp only [stepR, h2, if_true] at h
        cases ho : signR o with
        | none => rw [ho] at h; simp at h
        | some p =>
          cases hn : numsR [x, y, z] with
          | none => rw [ho, hn] at h; simp at h
          | some ns =>
            rw [ho, hn] at h
            have hi := numsR_itoa hn
            match ns, numsR_len hn with
            | [a, c, d], _ =>
              simp [mkR] at h
              simp at hi
              obtain ⟨rfl, rfl, rfl⟩ := hi
              subst h
              refine ⟨?_, by simp, by simp, fun q => absurd q (by simp)⟩
              simp [wordsT, hv, (sign_signR ho).1]
    · by_cases h3 : kindR v = 3
      · obtain ⟨hv, -⟩ := verb_kindR (v := v) (by omega)
        rw [h3] at hv
        match r, h with
        | [], h => simp [stepR, h3] at h
        | [_], h => simp [stepR, h3] at h
        | _ :: _ :: _ :: _, h => simp [stepR, h3] at h
        | [x, y], h =>
          simp only [stepR, if_neg h2, if_pos h3] at h
          cases hx : numsR [x] with
          | none => rw [hx] at h; simp at h
          | some ns =>
            cases hn : numsR (pcs 44 y) with
            | none => rw [hx, hn] at h; simp at h
            | some l =>
              rw [hx, hn] at h
              have hi := numsR_itoa hx
              have hl := numsR_itoa hn
              have hne : l ≠ [] := fun q => by rw [q] at hl; exact pcs_ne 44 y hl
              match ns, numsR_len hx with
              | [a], _ =>
                simp [mkR] at h
                simp at hi
                subst hi
                subst h
                refine ⟨?_, by simp, by simp, fun _ => hne⟩
                simp [wordsT, hv]
                rw [commaT_join hne, ← hl, join_pcs]
      · have e : stepR (v :: r) = match numsR r with
            | some ns => mkR (kindR v) 0 [] ns
            | none => none := by
          show (if kindR v = 2 then _ else if kindR v = 3 then _ else _) = _
          rw [if_neg h2, if_neg h3]
          cases numsR r <;> rfl
        rw [e] at h
        cases hn : numsR r with
        | none => rw [hn] at h; cases h
        | some ns =>
          rw [hn] at h
          simp only at h
          have hi := numsR_itoa hn
          have hk0 : kindR v ≠ 0 := fun q => by
            rw [q] at h
            match ns with
            | [] => simp [mkR] at h
            | [a] => simp [mkR] at h
            | [a, b] => simp [mkR] at h
            | [a, b, c] => simp [mkR] at h
            | [a, b, c, d] => simp [mkR] at h
            | a :: b :: c :: d :: e :: t => simp [mkR] at h
          obtain ⟨hv, hk1, hk9⟩ := verb_kindR hk0
          generalize kindR v = k at *
          subst hv
          subst hi
          match ns, h with
          | [a], h =>
            simp only [mkR] at h
            split at h
            · next q =>
              simp at h
              subst h
              refine ⟨?_, hk1, hk9, fun q => absurd q h3⟩
              have : k = 1 ∨ k = 7 := by omega
              rcases this with rfl | rfl <;> simp [wordsT]
            · cases h
          | [a, b], h =>
            simp only [mkR] at h
            split at h
            · next q =>
              simp at h
              subst h
              refine ⟨?_, hk1, hk9, fun q => absurd q h3⟩
              rcases q with rfl | rfl <;> simp [wordsT]
            · split at h
              · next q =>
                simp at h
                subst h
                refine ⟨?_, hk1, hk9, fun q => absurd q h3⟩
                subst q
                simp [wordsT]
              · cases h
          | [a, b, c], h =>
            simp only [mkR] at h
            split at h
            · next q =>
              simp at h
              subst h
              refine ⟨?_, hk1, hk9, fun q => absurd q h3⟩
              have : k = 9 := by omega
              subst this
              simp [wordsT]
            · cases h
          | [a, b, c, d], h =>
            simp only [mkR] at h
            split at h
            · next q =>
              simp at h
              subst h
              refine ⟨?_, hk1, hk9, fun q => absurd q h3⟩
              subst q
              simp [wordsT]
            · cases h
/-- A line that is read is printed as it stood. -/
theorem stepT_stepR {x : List UInt8} {s : St} (h : stepR (pcs 32 x) = some s) : stepT s = x ++ [10] := by
  obtain ⟨h1, h2, h3, h4⟩ := words_stepR h
  rw [stepT_words ⟨h2, h3⟩ h4, h1, join_pcs]
theorem queryT_lines : ∀ (k : Nat) (D : List UInt8) (n : Int) (q : List St), D.length ≤ k → linesR (pcs 10 D) n = .inr q → queryT q = D := by
  intro k
  induction k with
  | zero =>
    intro D n q hk h
    have : D = [] := List.length_eq_zero_iff.1 (by omega)
    subst this
    rw [show pcs 10 ([] : List UInt8) = [[]] from rfl, linesR, if_pos rfl] at h
    injection h with h
    rw [← h]; rfl
  | succ k ih =>
    intro D n q hk h
    rcases sep_or 10 D with h10 | ⟨a, b, h10, rfl⟩
    · rw [pcs_nosep h10, linesR] at h
      split at h
      · next e => injection h with h; rw [← h, e]; rfl
      · cases h
    · obtain ⟨p, r, e⟩ := pcs_ex 10 b
      rw [pcs_first h10, e, linesR] at h
      cases hs : stepR (pcs 32 a) with
      | none => rw [hs] at h; cases h
      | some s =>
        rw [hs] at h
        simp only at h
        cases hl : linesR (p :: r) (n + 1) with
        | inl m => rw [hl] at h; cases h
        | inr q' =>
          rw [hl] at h
          injection h with h
          rw [← e] at hl
          have := ih b (n + 1) q' (by simp only [List.length_append, List.length_cons] at hk; omega) hl
          rw [← h]
          show stepT s ++ queryT q' = _
          rw [stepT_stepR hs, this]
          simp
/-- What is read is printed as it stood. -/
theorem queryT_parse {D : List UInt8} (h : (parseR D).2.2 = 0) : queryE (parseR D).1 = 0 ∧ queryT (parseR D).1 = D := by
  unfold parseR at h ⊢
  by_cases hl : 1024 < D.length
  · rw [if_pos hl] at h; exact absurd h (by decide)
  · rw [if_neg hl] at h ⊢
    cases hs : linesR (pcs 10 D) 1 with
    | inl k => rw [hs] at h; simp at h
    | inr q =>
      rw [hs] at h
      simp only at h ⊢
      by_cases hq : queryE q = 0
      · rw [if_pos hq] at h ⊢
        exact ⟨hq, queryT_lines _ D 1 q (Nat.le_refl _) hs⟩
      · rw [if_neg hq] at h
        exact absurd h hq
theorem parse_at (D : List UInt8) : 0 ≤ (parseR D).2.1 := by
  have hl : ∀ (P : List (List UInt8)) (n k : Int), 0 ≤ n → linesR P n = .inl k → 0 ≤ k := by
    intro P
    induction P with
    | nil => intro n k _ h; cases h
    | cons x P ih =>
      intro n k hn h
      cases P with
      | nil =>
        rw [linesR] at h
        split at h
        · cases h
        · injection h with h; omega
      | cons y r =>
        rw [linesR] at h
        cases hs : stepR (pcs 32 x) with
        | none => rw [hs] at h; injection h with h; omega
        | some s =>
          rw [hs] at h
          simp only at h
          cases hl : linesR (y :: r) (n + 1) with
          | inl m => rw [hl] at h; injection h with h; rw [← h]; exact ih (n + 1) m (by omega) hl
          | inr q => rw [hl] at h; cases h
  unfold parseR
  split
  · exact Int.le_refl 0
  · cases hs : linesR (pcs 10 D) 1 with
    | inl k => exact hl _ 1 k (by omega) hs
    | inr q => simp only; split <;> exact Int.le_refl 0
theorem parse_bad {D : List UInt8} (h : (parseR D).2.2 ≠ 0) : (parseR D).1 = [] := by
  unfold parseR at h ⊢
  split
  · rfl
  · next hl =>
    rw [if_neg hl] at h
    cases hs : linesR (pcs 10 D) 1 with
    | inl k => rfl
    | inr q =>
      rw [hs] at h
      simp only at h ⊢
      split
      · next hq => rw [if_pos hq] at h; exact absurd rfl h
      · rfl
/-! a right query is printed, and read again -/
theorem stCan_of {s : St} {V : List Int} (h : stW s V ≠ 0) (ht : StTx s) : StCan s := by
  have hk := ht.kind
  have hpk := ht.pick
  have hlist : s.kind ≠ 3 → s.list = [] := fun q => List.length_eq_zero_iff.1 (by
    rcases Nat.eq_zero_or_pos s.list.length with e | e
    · exact e
    · exact absurd (hpk.1 e) q)
  have hlist3 : s.kind = 3 → s.list ≠ [] := fun q e => by
    have := hpk.2 q
    rw [e] at this
    simp at this
  unfold stW at h
  by_cases k1 : s.kind = 1
  · rw [if_pos k1] at h
    by_cases h2 : tblB s = true
    · unfold tblB at h2
      simp only [Bool.and_eq_true, beq_iff_eq] at h2
      obtain ⟨p1, p2, p3, p4, p5, p6⟩ := h2
      exact ⟨hk, fun _ => p4, fun q => absurd q (by omega), hlist, hlist3, fun _ _ _ => p2, fun _ _ _ _ => p3, fun _ _ _ => p5⟩
    · rw [if_neg h2] at h; exact absurd rfl h
  · rw [if_neg k1] at h
    by_cases hb : badStep s ((V.length : Int) - 1) = true
    · rw [if_pos hb] at h; exact absurd rfl h
    · rw [if_neg hb] at h
      generalize V.getD s.a.toNat 0 = a at *
      generalize V.getD s.b.toNat 0 = b at *
      unfold badStep at hb
      simp only [Bool.or_eq_true, not_or, Bool.and_eq_true, not_and, Bool.not_eq_true', Bool.not_eq_true, bne_iff_ne, ne_eq, Bool.not_eq_false] at hb
      obtain ⟨b1, b2, b3, b4⟩ := hb
      have hbz : s.kind ≠ 4 → s.kind ≠ 5 → s.kind ≠ 6 → s.b = 0 := fun q4 q5 q6 => by
        have ht0 : twoB s = false := by simp [twoB, q4, q5, q6]
        have := b3 (by simpa using ht0)
        omega
      have hop2 : s.kind = 2 → 1 ≤ s.op ∧ s.op ≤ 3 := fun q => ⟨ht.where_ q, ht.op.2⟩
      unfold ofW at h
      by_cases k2 : s.kind = 2
      · exact ⟨hk, fun q => absurd k2 q, hop2, hlist, hlist3, hbz, fun q => absurd k2 q, fun q => absurd k2 q⟩
      rw [if_neg k2] at h
      by_cases k3 : s.kind = 3
      · rw [if_pos k3] at h
        split at h
        · next q =>
          simp only [Bool.and_eq_true, decide_eq_true_eq, Bool.not_eq_true', noneB, beq_iff_eq] at q
          obtain ⟨⟨z1, z2, z3⟩, z4, z5⟩ := q
          exact ⟨hk, fun _ => z2, hop2, hlist, hlist3, hbz, fun _ _ _ _ => z1, fun _ _ _ => z3⟩
        · exact absurd rfl h
      rw [if_neg k3] at h
      by_cases k4 : s.kind = 4
      · rw [if_pos k4] at h
        split at h
        · next q =>
          simp only [Bool.and_eq_true, decide_eq_true_eq, beq_iff_eq] at q
          exact ⟨hk, fun _ => q.2.1, hop2, hlist, hlist3, hbz, fun _ q4 => absurd k4 q4, fun _ q4 => absurd k4 q4⟩
        · exact absurd rfl h
      rw [if_neg k4] at h
      by_cases k5 : s.kind = 5 ∨ s.kind = 6
      · rw [if_pos k5] at h
        split at h
        · next q =>
          simp only [Bool.and_eq_true, decide_eq_true_eq, noneB, beq_iff_eq] at q
          obtain ⟨⟨z1, z2, z3⟩, -⟩ := q
          exact ⟨hk, fun _ => z2, hop2, hlist, hlist3, hbz, fun _ _ _ _ => z1, fun _ _ _ => z3⟩
        · exact absurd rfl h
      rw [if_neg k5] at h
      by_cases k7 : s.kind = 7
      · rw [if_pos k7] at h
        split at h
        · next q =>
          simp only [Bool.and_eq_true, decide_eq_true_eq, noneB, beq_iff_eq] at q
          obtain ⟨z1, z2, z3⟩ := q
          exact ⟨hk, fun _ => z2, hop2, hlist, hlist3, hbz, fun _ _ _ _ => z1, fun _ _ _ => z3⟩
        · exact absurd rfl h
      rw [if_neg k7] at h
      by_cases k8 : s.kind = 8
      · rw [if_pos k8] at h
        split at h
        · next q =>
          simp only [Bool.and_eq_true, decide_eq_true_eq, beq_iff_eq] at q
          exact ⟨hk, fun _ => q.2.1, hop2, hlist, hlist3, hbz, fun _ _ q8 => absurd k8 q8, fun _ _ _ => q.2.2⟩
        · exact absurd rfl h
      rw [if_neg k8] at h
      by_cases k9 : s.kind = 9
      · rw [if_pos k9] at h
        split at h
        · next q =>
          simp only [Bool.and_eq_true, decide_eq_true_eq, beq_iff_eq] at q
          exact ⟨hk, fun _ => q.2.1, hop2, hlist, hlist3, hbz, fun _ _ _ q9 => absurd k9 q9, fun _ _ q9 => absurd k9 q9⟩
        · exact absurd rfl h
      rw [if_neg k9] at h
      exact absurd rfl h
theorem stCan_all : ∀ {q : List St} {V W : List Int}, widsL q V = some W → (∀ v ∈ V, 0 ≤ v ∧ v ≤ 8) → V.length + q.length ≤ 8 → ∀ s ∈ q, StCan s
  | [], _, _, _, _, _, s, hs => by simp at hs
  | t :: q, V, W, h, hV, hl, s, hs => by
    rw [widsL] at h
    by_cases e : stW t V = 0
    · rw [if_pos e] at h; cases h
    · rw [if_neg e] at h
      rw [List.length_cons] at hl
      rcases List.mem_cons.1 hs with q1 | q1
      · rw [q1]; exact stCan_of e (stTx_of hV (by omega) e)
      · refine stCan_all h (fun v hv => ?_) (by rw [List.length_append, List.length_singleton]; omega) s q1
        rcases List.mem_append.1 hv with h1 | h1
        · exact hV v h1
        · rw [List.mem_singleton.1 h1]; exact stW_rng hV
theorem itoa_one {n : Int} (h : 0 ≤ n ∧ n ≤ 8) : (Lib.itoa n).length = 1 := by
  have : n = 0 ∨ n = 1 ∨ n = 2 ∨ n = 3 ∨ n = 4 ∨ n = 5 ∨ n = 6 ∨ n = 7 ∨ n = 8 := by omega
  unfold Lib.itoa
  rw [if_neg (by omega), Lib.decDigits, dif_pos (by omega)]
  rfl
theorem numT_two {n : Int} (h : 0 ≤ n ∧ n ≤ 8) : (numT n).length = 2 := by
  unfold numT
  rw [List.length_cons, itoa_one h]
theorem tailC_two {l : List Int} (h : ∀ n ∈ l, 0 ≤ n ∧ n ≤ 8) : (tailC l).length = 2 * l.length := by
  induction l with
  | nil => simp [tailC]
  | cons n l ih =>
    have h0 := itoa_one (h n (by simp))
    have h2 := ih fun m hm => h m (by simp [hm])
    simp only [tailC, List.length_append, List.length_cons, h0, h2]
    omega
theorem stepT_short {s : St} (h : StTx s) : (stepT s).length ≤ 64 := by
  have h1 := verbB_len s.kind
  have h2 := numT_two h.a
  have h3 := numT_two h.b
  have h4 := numT_two h.col
  have h5 := numT_len h.val
  have h6 := signB_len s.op
  have h7 : (commaT s.list).length ≤ 2 * s.list.length + 1 := by
    have hl := h.list
    cases hs : s.list with
    | nil => simp [commaT]
    | cons n l =>
      rw [hs] at hl
      have a1 := itoa_one (hl n (by simp))
      have a2 := tailC_two (l := l) fun m hm => hl m (by simp [hm])
      simp only [commaT, List.length_append, List.length_cons]
      omega
  have h8 := h.len
  have ha : (argsT s).length ≤ 40 := by
    unfold argsT
    repeat' split
    all_goals ((try simp only [List.length_append, List.length_cons, List.length_nil]); omega)
  unfold stepT
  simp only [List.length_append, List.length_cons, List.length_nil]
  omega
theorem queryT_short {q : List St} (h : ∀ s ∈ q, StTx s) : (queryT q).length ≤ 64 * q.length := by
  induction q with
  | nil => simp [queryT]
  | cons s q ih =>
    have h1 := stepT_short (h s (by simp))
    have h2 := ih fun x hx => h x (by simp [hx])
    unfold queryT at h2 ⊢
    rw [List.flatMap_cons, List.length_append, List.length_cons]
    omega
theorem lines_queryT : ∀ (q : List St) (n : Int), (∀ s ∈ q, StTx s) → (∀ s ∈ q, StCan s) → linesR (pcs 10 (queryT q)) n = .inr q
  | [], n, _, _ => by rw [show queryT [] = [] from rfl, show pcs 10 ([] : List UInt8) = [[]] from rfl, linesR, if_pos rfl]
  | s :: q, n, ht, hc => by
    have h1 := ht s (by simp)
    have h2 := hc s (by simp)
    have hw := stepT_words h2.kind h2.list3
    have h10 : (10 : UInt8) ∉ joinC 32 (wordsT s) := join_no (by decide) (words_no s 10 (.inr rfl))
    have hp : pcs 32 (joinC 32 (wordsT s)) = wordsT s := pcs_join (by simp [wordsT]) (words_no s 32 (.inl rfl))
    have hr := stepR_words h2 ⟨by have := h1.a; omega, by have := h1.a; omega⟩ ⟨by have := h1.b; omega, by have := h1.b; omega⟩ ⟨by have := h1.col; omega, by have := h1.col; omega⟩ ⟨by have := h1.val; omega, by have := h1.val; omega⟩
      (fun m hm => ⟨by have := h1.list m hm; omega, by have := h1.list m hm; omega⟩)
    have e : queryT (s :: q) = joinC 32 (wordsT s) ++ 10 :: queryT q := by
      show stepT s ++ queryT q = _
      rw [hw]; simp
    obtain ⟨p, r, e2⟩ := pcs_ex 10 (queryT q)
    have hi := lines_queryT q (n + 1) (fun x hx => ht x (by simp [hx])) (fun x hx => hc x (by simp [hx]))
    rw [e2] at hi
    rw [e, pcs_first h10, e2, linesR, hp, hr]
    simp only
    rw [hi]
/-- What is printed is read as it was. -/
theorem parse_queryT {q : List St} (h : queryE q = 0) : parseR (queryT q) = (q, 0, 0) := by
  obtain ⟨h1, h2, h3⟩ := stTx_query h
  obtain ⟨-, h8, W, hW⟩ := queryE_zero.1 h
  have hc := stCan_all hW (fun v hv => by simp at hv) (by simp; omega)
  have hl := queryT_short h3
  unfold parseR
  rw [if_neg (by omega), lines_queryT q 1 h3 hc]
  simp only
  rw [if_pos h]
end Go.Proofs.YtamlaeocojcgdaaDoor
/- query.text: the kinds that are a word and numbers. -/
namespace Go.Proofs.YtamlaeocojcgdaaDoor
set_option linter.unusedVariables false
set_option linter.unusedSimpArgs false
open Go.ChangeShapes Go.WideShapes Go.ChangeAt Go.RowKit

def TextPost (s : St) (w : World) (e : Ending) (w' : World) : Prop := e = .returned (.string (bstr (stepT s))) ∧ Below w.heap.size w w'

theorem step_t1 (a b col op val : Int) (l : List Int) : stepT ⟨1, a, b, col, op, val, l⟩ = [116, 97, 98, 108, 101] ++ (numsT [a] ++ [10]) := by
  simp [stepT, argsT, verbB, numsT]
set_option maxHeartbeats 1000000 in
set_option maxRecDepth 100000 in
theorem text_k1 (a b col op val : Int) (l : List Int) (A : Option Addr) (c : Nat) (w : World) (h : StTx ⟨1, a, b, col, op, val, l⟩) (ht : Pow w) :
    Calls Tryd.prog 17 #[.agg #[.int .i64 1, .int .i64 a, .int .i64 b, .int .i64 col, .int .i64 op, .int .i64 val, .slice A l.length c]] w (TextPost ⟨1, a, b, col, op, val, l⟩ w) := by
  unfold TextPost
  rw [step_t1]
  have h1 := h.a; have h2 := h.b; have h3 := h.col; have h4 := h.val
  simp only at h1 h2 h3 h4
  obtain ⟨wa, hwa⟩ : ∃ q : World, q = (w.alloc (.cells #[.int .i64 1, .int .i64 a, .int .i64 b, .int .i64 col, .int .i64 op, .int .i64 val, .slice A l.length c] 40)).alloc (.cells #[.int .i64 a] 3) := ⟨_, rfl⟩
  have hb : Below w.heap.size w wa := by rw [hwa]; exact ((Below.refl _ _).alloc (Nat.le_refl _) _).alloc (by simp) _
  have HC := hid (line_any [116, 97, 98, 108, 101] [a] (some ⟨w.heap.size + 1, 0, none⟩) 1 wa (by decide) (by rw [hwa]; exact Row.new' (w.alloc _) _ _ (by simp) rfl (by simp)) (by simp) (fun n hn => by
    simp only [List.mem_cons, List.not_mem_nil, or_false] at hn
    rcases hn with rfl <;> omega) (Pow.step ht hb))
  have HB := hid hb
  clear h ht hb h1 h2 h3 h4
  go_enter Tryd.func17, Tryd.ntmps17
  go_wp2_with fail
  -- STOP-k1
  rw [← hwa]
  clear hwa
  refine HC.out.mono ?_
  rintro e w1 ⟨rfl, hb1⟩
  go_wp2_with fail
  go_ret
  exact ⟨rfl, Below.step' HB.out hb1⟩
theorem step_t4 (a b col op val : Int) (l : List Int) : stepT ⟨4, a, b, col, op, val, l⟩ = [106, 111, 105, 110] ++ (numsT [a, b, col, val] ++ [10]) := by
  simp [stepT, argsT, verbB, numsT]
set_option maxHeartbeats 1000000 in
set_option maxRecDepth 100000 in
theorem text_k4 (a b col op val : Int) (l : List Int) (A : Option Addr) (c : Nat) (w : World) (h : StTx ⟨4, a, b, col, op, val, l⟩) (ht : Pow w) :
    Calls Tryd.prog 17 #[.agg #[.int .i64 4, .int .i64 a, .int .i64 b, .int .i64 col, .int .i64 op, .int .i64 val, .slice A l.length c]] w (TextPost ⟨4, a, b, col, op, val, l⟩ w) := by
  unfold TextPost
  rw [step_t4]
  have h1 := h.a; have h2 := h.b; have h3 := h.col; have h4 := h.val
  simp only at h1 h2 h3 h4
  obtain ⟨wa, hwa⟩ : ∃ q : World, q = (w.alloc (.cells #[.int .i64 4, .int .i64 a, .int .i64 b, .int .i64 col, .int .i64 op, .int .i64 val, .slice A l.length c] 40)).alloc (.cells #[.int .i64 a, .int .i64 b, .int .i64 col, .int .i64 val] 3) := ⟨_, rfl⟩
  have hb : Below w.heap.size w wa := by rw [hwa]; exact ((Below.refl _ _).alloc (Nat.le_refl _) _).alloc (by simp) _
  have HC := hid (line_any [106, 111, 105, 110] [a, b, col, val] (some ⟨w.heap.size + 1, 0, none⟩) 4 wa (by decide) (by rw [hwa]; exact Row.new' (w.alloc _) _ _ (by simp) rfl (by simp)) (by simp) (fun n hn => by
    simp only [List.mem_cons, List.not_mem_nil, or_false] at hn
    rcases hn with rfl | rfl | rfl | rfl <;> omega) (Pow.step ht hb))
  have HB := hid hb
  clear h ht hb h1 h2 h3 h4
  go_enter Tryd.func17, Tryd.ntmps17
  go_wp2_with fail
  -- STOP-k4
  rw [← hwa]
  clear hwa
  refine HC.out.mono ?_
  rintro e w1 ⟨rfl, hb1⟩
  go_wp2_with fail
  go_ret
  exact ⟨rfl, Below.step' HB.out hb1⟩
theorem step_t5 (a b col op val : Int) (l : List Int) : stepT ⟨5, a, b, col, op, val, l⟩ = [117, 110, 105, 111, 110] ++ (numsT [a, b] ++ [10]) := by
  simp [stepT, argsT, verbB, numsT]
set_option maxHeartbeats 1000000 in
set_option maxRecDepth 100000 in
theorem text_k5 (a b col op val : Int) (l : List Int) (A : Option Addr) (c : Nat) (w : World) (h : StTx ⟨5, a, b, col, op, val, l⟩) (ht : Pow w) :
    Calls Tryd.prog 17 #[.agg #[.int .i64 5, .int .i64 a, .int .i64 b, .int .i64 col, .int .i64 op, .int .i64 val, .slice A l.length c]] w (TextPost ⟨5, a, b, col, op, val, l⟩ w) := by
  unfold TextPost
  rw [step_t5]
  have h1 := h.a; have h2 := h.b; have h3 := h.col; have h4 := h.val
  simp only at h1 h2 h3 h4
  obtain ⟨wa, hwa⟩ : ∃ q : World, q = (w.alloc (.cells #[.int .i64 5, .int .i64 a, .int .i64 b, .int .i64 col, .int .i64 op, .int .i64 val, .slice A l.length c] 40)).alloc (.cells #[.int .i64 a, .int .i64 b] 3) := ⟨_, rfl⟩
  have hb : Below w.heap.size w wa := by rw [hwa]; exact ((Below.refl _ _).alloc (Nat.le_refl _) _).alloc (by simp) _
  have HC := hid (line_any [117, 110, 105, 111, 110] [a, b] (some ⟨w.heap.size + 1, 0, none⟩) 2 wa (by decide) (by rw [hwa]; exact Row.new' (w.alloc _) _ _ (by simp) rfl (by simp)) (by simp) (fun n hn => by
    simp only [List.mem_cons, List.not_mem_nil, or_false] at hn
    rcases hn with rfl | rfl <;> omega) (Pow.step ht hb))
  have HB := hid hb
  clear h ht hb h1 h2 h3 h4
  go_enter Tryd.func17, Tryd.ntmps17
  go_wp2_with fail
  -- STOP-k5
  rw [← hwa]
  clear hwa
  refine HC.out.mono ?_
  rintro e w1 ⟨rfl, hb1⟩
  go_wp2_with fail
  go_ret
  exact ⟨rfl, Below.step' HB.out hb1⟩
theorem step_t6 (a b col op val : Int) (l : List Int) : stepT ⟨6, a, b, col, op, val, l⟩ = [109, 105, 110, 117, 115] ++ (numsT [a, b] ++ [10]) := by
  simp [stepT, argsT, verbB, numsT]
set_option maxHeartbeats 1000000 in
set_option maxRecDepth 100000 in
theorem text_k6 (a b col op val : Int) (l : List Int) (A : Option Addr) (c : Nat) (w : World) (h : StTx ⟨6, a, b, col, op, val, l⟩) (ht : Pow w) :
    Calls Tryd.prog 17 #[.agg #[.int .i64 6, .int .i64 a, .int .i64 b, .int .i64 col, .int .i64 op, .int .i64 val, .slice A l.length c]] w (TextPost ⟨6, a, b, col, op, val, l⟩ w) := by
  unfold TextPost
  rw [step_t6]
  have h1 := h.a; have h2 := h.b; have h3 := h.col; have h4 := h.val
  simp only at h1 h2 h3 h4
  obtain ⟨wa, hwa⟩ : ∃ q : World, q = (w.alloc (.cells #[.int .i64 6, .int .i64 a, .int .i64 b, .int .i64 col, .int .i64 op, .int .i64 val, .slice A l.length c] 40)).alloc (.cells #[.int .i64 a, .int .i64 b] 3) := ⟨_, rfl⟩
  have hb : Below w.heap.size w wa := by rw [hwa]; exact ((Below.refl _ _).alloc (Nat.le_refl _) _).alloc (by simp) _
  have HC := hid (line_any [109, 105, 110, 117, 115] [a, b] (some ⟨w.heap.size + 1, 0, none⟩) 2 wa (by decide) (by rw [hwa]; exact Row.new' (w.alloc _) _ _ (by simp) rfl (by simp)) (by simp) (fun n hn => by
    simp only [List.mem_cons, List.not_mem_nil, or_false] at hn
    rcases hn with rfl | rfl <;> omega) (Pow.step ht hb))
  have HB := hid hb
  clear h ht hb h1 h2 h3 h4
  go_enter Tryd.func17, Tryd.ntmps17
  go_wp2_with fail
  -- STOP-k6
  rw [← hwa]
  clear hwa
  refine HC.out.mono ?_
  rintro e w1 ⟨rfl, hb1⟩
  go_wp2_with fail
  go_ret
  exact ⟨rfl, Below.step' HB.out hb1⟩
theorem step_t7 (a b col op val : Int) (l : List Int) : stepT ⟨7, a, b, col, op, val, l⟩ = [100, 105, 115, 116, 105, 110, 99, 116] ++ (numsT [a] ++ [10]) := by
  simp [stepT, argsT, verbB, numsT]
set_option maxHeartbeats 1000000 in
set_option maxRecDepth 100000 in
theorem text_k7 (a b col op val : Int) (l : List Int) (A : Option Addr) (c : Nat) (w : World) (h : StTx ⟨7, a, b, col, op, val, l⟩) (ht : Pow w) :
    Calls Tryd.prog 17 #[.agg #[.int .i64 7, .int .i64 a, .int .i64 b, .int .i64 col, .int .i64 op, .int .i64 val, .slice A l.length c]] w (TextPost ⟨7, a, b, col, op, val, l⟩ w) := by
  unfold TextPost
  rw [step_t7]
  have h1 := h.a; have h2 := h.b; have h3 := h.col; have h4 := h.val
  simp only at h1 h2 h3 h4
  obtain ⟨wa, hwa⟩ : ∃ q : World, q = (w.alloc (.cells #[.int .i64 7, .int .i64 a, .int .i64 b, .int .i64 col, .int .i64 op, .int .i64 val, .slice A l.length c] 40)).alloc (.cells #[.int .i64 a] 3) := ⟨_, rfl⟩
  have hb : Below w.heap.size w wa := by rw [hwa]; exact ((Below.refl _ _).alloc (Nat.le_refl _) _).alloc (by simp) _
  have HC := hid (line_any [100, 105, 115, 116, 105, 110, 99, 116] [a] (some ⟨w.heap.size + 1, 0, none⟩) 1 wa (by decide) (by rw [hwa]; exact Row.new' (w.alloc _) _ _ (by simp) rfl (by simp)) (by simp) (fun n hn => by
    simp only [List.mem_cons, List.not_mem_nil, or_false] at hn
    rcases hn with rfl <;> omega) (Pow.step ht hb))
  have HB := hid hb
  clear h ht hb h1 h2 h3 h4
  go_enter Tryd.func17, Tryd.ntmps17
  go_wp2_with fail
  -- STOP-k7
  rw [← hwa]
  clear hwa
  refine HC.out.mono ?_
  rintro e w1 ⟨rfl, hb1⟩
  go_wp2_with fail
  go_ret
  exact ⟨rfl, Below.step' HB.out hb1⟩
theorem step_t8 (a b col op val : Int) (l : List Int) : stepT ⟨8, a, b, col, op, val, l⟩ = [99, 111, 117, 110, 116] ++ (numsT [a, col] ++ [10]) := by
  simp [stepT, argsT, verbB, numsT]
set_option maxHeartbeats 1000000 in
set_option maxRecDepth 100000 in
theorem text_k8 (a b col op val : Int) (l : List Int) (A : Option Addr) (c : Nat) (w : World) (h : StTx ⟨8, a, b, col, op, val, l⟩) (ht : Pow w) :
    Calls Tryd.prog 17 #[.agg #[.int .i64 8, .int .i64 a, .int .i64 b, .int .i64 col, .int .i64 op, .int .i64 val, .slice A l.length c]] w (TextPost ⟨8, a, b, col, op, val, l⟩ w) := by
  unfold TextPost
  rw [step_t8]
  have h1 := h.a; have h2 := h.b; have h3 := h.col; have h4 := h.val
  simp only at h1 h2 h3 h4
  obtain ⟨wa, hwa⟩ : ∃ q : World, q = (w.alloc (.cells #[.int .i64 8, .int .i64 a, .int .i64 b, .int .i64 col, .int .i64 op, .int .i64 val, .slice A l.length c] 40)).alloc (.cells #[.int .i64 a, .int .i64 col] 3) := ⟨_, rfl⟩
  have hb : Below w.heap.size w wa := by rw [hwa]; exact ((Below.refl _ _).alloc (Nat.le_refl _) _).alloc (by simp) _
  have HC := hid (line_any [99, 111, 117, 110, 116] [a, col] (some ⟨w.heap.size + 1, 0, none⟩) 2 wa (by decide) (by rw [hwa]; exact Row.new' (w.alloc _) _ _ (by simp) rfl (by simp)) (by simp) (fun n hn => by
    simp only [List.mem_cons, List.not_mem_nil, or_false] at hn
    rcases hn with rfl | rfl <;> omega) (Pow.step ht hb))
  have HB := hid hb
  clear h ht hb h1 h2 h3 h4
  go_enter Tryd.func17, Tryd.ntmps17
  go_wp2_with fail
  -- STOP-k8
  rw [← hwa]
  clear hwa
  refine HC.out.mono ?_
  rintro e w1 ⟨rfl, hb1⟩
  go_wp2_with fail
  go_ret
  exact ⟨rfl, Below.step' HB.out hb1⟩
theorem step_t9 (a b col op val : Int) (l : List Int) : stepT ⟨9, a, b, col, op, val, l⟩ = [115, 117, 109] ++ (numsT [a, col, val] ++ [10]) := by
  simp [stepT, argsT, verbB, numsT]
set_option maxHeartbeats 1000000 in
set_option maxRecDepth 100000 in
theorem text_k9 (a b col op val : Int) (l : List Int) (A : Option Addr) (c : Nat) (w : World) (h : StTx ⟨9, a, b, col, op, val, l⟩) (ht : Pow w) :
    Calls Tryd.prog 17 #[.agg #[.int .i64 9, .int .i64 a, .int .i64 b, .int .i64 col, .int .i64 op, .int .i64 val, .slice A l.length c]] w (TextPost ⟨9, a, b, col, op, val, l⟩ w) := by
  unfold TextPost
  rw [step_t9]
  have h1 := h.a; have h2 := h.b; have h3 := h.col; have h4 := h.val
  simp only at h1 h2 h3 h4
  obtain ⟨wa, hwa⟩ : ∃ q : World, q = (w.alloc (.cells #[.int .i64 9, .int .i64 a, .int .i64 b, .int .i64 col, .int .i64 op, .int .i64 val, .slice A l.length c] 40)).alloc (.cells #[.int .i64 a, .int .i64 col, .int .i64 val] 3) := ⟨_, rfl⟩
  have hb : Below w.heap.size w wa := by rw [hwa]; exact ((Below.refl _ _).alloc (Nat.le_refl _) _).alloc (by simp) _
  have HC := hid (line_any [115, 117, 109] [a, col, val] (some ⟨w.heap.size + 1, 0, none⟩) 3 wa (by decide) (by rw [hwa]; exact Row.new' (w.alloc _) _ _ (by simp) rfl (by simp)) (by simp) (fun n hn => by
    simp only [List.mem_cons, List.not_mem_nil, or_false] at hn
    rcases hn with rfl | rfl | rfl <;> omega) (Pow.step ht hb))
  have HB := hid hb
  clear h ht hb h1 h2 h3 h4
  go_enter Tryd.func17, Tryd.ntmps17
  go_wp2_with fail
  -- STOP-k9
  rw [← hwa]
  clear hwa
  refine HC.out.mono ?_
  rintro e w1 ⟨rfl, hb1⟩
  go_wp2_with fail
  go_ret
  exact ⟨rfl, Below.step' HB.out hb1⟩
end Go.Proofs.YtamlaeocojcgdaaDoor
/- query.text at where. -/
namespace Go.Proofs.YtamlaeocojcgdaaDoor
set_option linter.unusedVariables false
set_option linter.unusedSimpArgs false
open Go.ChangeShapes Go.WideShapes Go.ChangeAt Go.RowKit

theorem step_t2 (a b col op val : Int) (l : List Int) : stepT ⟨2, a, b, col, op, val, l⟩ = ([119, 104, 101, 114, 101, 32] ++ Lib.itoa a) ++ ([32] ++ Lib.itoa col) ++ ([32] ++ signB op) ++ ([] ++ (numsT [val] ++ [10])) := by
  simp [stepT, argsT, verbB, numsT, numT]
set_option maxHeartbeats 4000000 in
set_option maxRecDepth 100000 in
theorem text_k2 (a b col op val : Int) (l : List Int) (A : Option Addr) (c : Nat) (w : World) (h : StTx ⟨2, a, b, col, op, val, l⟩) (ht : Pow w) :
    Calls Tryd.prog 17 #[.agg #[.int .i64 2, .int .i64 a, .int .i64 b, .int .i64 col, .int .i64 op, .int .i64 val, .slice A l.length c]] w (TextPost ⟨2, a, b, col, op, val, l⟩ w) := by
  unfold TextPost
  have HT2 := hid (step_t2 a b col op val l)
  have h1 := h.a; have h2 := h.b; have h3 := h.col; have h4 := h.val; have h5 := h.op
  simp only at h1 h2 h3 h4 h5
  obtain ⟨wa, hwa⟩ : ∃ q : World, q = w.alloc (.cells #[.int .i64 2, .int .i64 a, .int .i64 b, .int .i64 col, .int .i64 op, .int .i64 val, .slice A l.length c] 40) := ⟨_, rfl⟩
  have hb : Below w.heap.size w wa := by rw [hwa]; exact alloc_below (Below.refl _ _) _
  have HX := hid (show Blk wa w.heap.size #[.int .i64 2, .int .i64 a, .int .i64 b, .int .i64 col, .int .i64 op, .int .i64 val, .slice A l.length c] 40 by rw [hwa]; exact Blk.new _ _ _)
  have hwl : w.heap.size < wa.heap.size := HX.out.lt
  have hpa : Pow wa := Pow.step ht hb
  have HA := hid (fun w1 (hb : Below wa.heap.size wa w1) => itoaN_any a (by omega) w1 (Pow.step hpa hb))
  have HC := hid (fun w1 (hb : Below wa.heap.size wa w1) => itoaN_any col (by omega) w1 (Pow.step hpa hb))
  have HS := hid (fun w1 => sign_any op (by omega) w1)
  have HL := hid (fun (w1 : World) (bk : Nat) (hb : Below wa.heap.size wa w1) (hx : Blk w1 bk #[.int .i64 val] 3) => show Calls Tryd.prog 28 #[.string ⟨#[]⟩, .slice (some ⟨bk, 0, none⟩) 1 1] w1 fun e w' => e = .returned (.string (bstr ([] ++ (numsT [val] ++ [10])))) ∧ Below w1.heap.size w1 w' from
    line_any [] [val] (some ⟨bk, 0, none⟩) 1 w1 (by decide) (.inr ⟨bk, 0, rfl, hx.lt, fun j u hu => by
      have := hx.cells.1 j
      rw [Nat.zero_add, this]; simpa using hu⟩) (by simp) (fun n hn => by rw [List.mem_singleton.1 hn]; omega) (Pow.step hpa hb))
  have hla := itoa21 (n := a) (by omega)
  have hlc := itoa21 (n := col) (by omega)
  have hls := signB_len op
  have hlv : ([] ++ (numsT [val] ++ [10])).length ≤ 30 := by
    have := numsT_len (l := [val]) (fun n hn => by rw [List.mem_singleton.1 hn]; omega)
    simp only [List.nil_append, List.length_append, List.length_singleton] at this ⊢
    omega
  obtain ⟨BA, hBA⟩ : ∃ q, q = bstr (Lib.itoa a) := ⟨_, rfl⟩
  obtain ⟨BC, hBC⟩ : ∃ q, q = bstr (Lib.itoa col) := ⟨_, rfl⟩
  obtain ⟨BS, hBS⟩ : ∃ q, q = bstr (signB op) := ⟨_, rfl⟩
  obtain ⟨BV, hBV⟩ : ∃ q, q = bstr ([] ++ (numsT [val] ++ [10])) := ⟨_, rfl⟩
  obtain ⟨W0, hW0⟩ : ∃ q, q = bstr [119, 104, 101, 114, 101, 32] := ⟨_, rfl⟩
  obtain ⟨B32, hB32⟩ : ∃ q, q = bstr [32] := ⟨_, rfl⟩
  have HFIN := hid (show (((((W0 ++ BA) ++ B32) ++ BC) ++ B32) ++ BS) ++ BV = bstr (stepT ⟨2, a, b, col, op, val, l⟩) by
    rw [HT2.out, hW0, hBA, hB32, hBC, hBS, hBV]
    simp only [bstr_app, List.append_assoc])
  have s1 : W0.size = 6 := by rw [hW0]; rfl
  have s2 : BA.size ≤ 21 := by rw [hBA, bstr_size]; exact hla
  have s3 : B32.size = 1 := by rw [hB32]; rfl
  have s4 : BC.size ≤ 21 := by rw [hBC, bstr_size]; exact hlc
  have s5 : BS.size ≤ 1 := by rw [hBS, bstr_size]; exact hls
  have s6 : BV.size ≤ 30 := by rw [hBV, bstr_size]; exact hlv
  rw [← hBV] at HL
  rw [← hBA] at HA
  rw [← hBC] at HC
  rw [← hBS] at HS
  have ew : (⟨#[119, 104, 101, 114, 101, 32]⟩ : ByteArray) = W0 := hW0.symm
  have e32 : (⟨#[32]⟩ : ByteArray) = B32 := hB32.symm
  have g1 : (9223372036854775807 < W0.size + BA.size) = False := eq_false (by omega)
  have g2 : (9223372036854775807 < W0.size + BA.size + B32.size) = False := eq_false (by omega)
  have g3 : (9223372036854775807 < W0.size + BA.size + B32.size + BC.size) = False := eq_false (by omega)
  have g4 : (9223372036854775807 < W0.size + BA.size + B32.size + BC.size + B32.size) = False := eq_false (by omega)
  have g5 : (9223372036854775807 < W0.size + BA.size + B32.size + BC.size + B32.size + BS.size) = False := eq_false (by omega)
  have g6 : (9223372036854775807 < W0.size + BA.size + B32.size + BC.size + B32.size + BS.size + BV.size) = False := eq_false (by omega)
  have HB := hid hb
  clear h ht hb h1 h2 h3 h4 h5 hpa hBA hBC hBS hBV hW0 hB32 hla hlc hls hlv s1 s2 s3 s4 s5 s6 HT2
  go_enter Tryd.func17, Tryd.ntmps17
  go_upto_region 5 with fail
  -- STOP-a
  rw [← hwa]
  clear hwa
  obtain ⟨cHX, fHX, sHX, nHX⟩ := HX.out.all
  try simp only [cbox] at cHX
  go_region_held3 (fun w' => (∀ b o, b < wa.heap.size → w'.cell? ⟨b, o, none⟩ = wa.cell? ⟨b, o, none⟩) ∧ Below wa.heap.size wa w')
    ((go_split_ands; refine keepS ?_; first | (with_reducible assumption) | (with_reducible exact (Below.refl _ _).drew) | (with_reducible refine alloc_below ?_ _; with_reducible assumption) | (with_reducible exact (alloc_below (Below.refl _ _) _).drew) | (with_reducible exact alloc_below (Below.refl _ _).drew _)))
    (first
      | (go_split_ands; go_at_call 16; (with_reducible refine (HA.out _ ?_).mono ?_); (with_reducible assumption); rintro e w2 ⟨rfl, hb2⟩; have hB2 : Below wa.heap.size wa w2 := Below.step' ‹_› hb2; (try have x2 : Blk w2 _ #[.int .i64 val] 3 := (Blk.new _ #[.int .i64 val] 3).step hb2); (try have x2 := Blk.step (show Blk (World.drew (wa.alloc (.cells #[.int .i64 val] 3))) wa.heap.size #[.int .i64 val] 3 from Blk.new wa #[.int .i64 val] 3) hb2))
      | (go_split_ands; go_at_call 16; (with_reducible refine (HC.out _ ?_).mono ?_); (with_reducible assumption); rintro e w3 ⟨rfl, hb3⟩; have hB3 : Below wa.heap.size wa w3 := Below.step' ‹_› hb3; (try have x3 : Blk w3 _ #[.int .i64 val] 3 := (Blk.new _ #[.int .i64 val] 3).step hb3); (try have x3 := Blk.step x2 hb3))
      | (go_split_ands; go_at_call 29; (with_reducible refine (HS.out _).mono ?_); rintro e w4 ⟨rfl, rfl⟩)
      | (go_split_ands; go_at_call 28; (with_reducible refine (HL.out _ _ ?_ x3).mono ?_); (with_reducible assumption); rintro e w5 ⟨rfl, hb5⟩; have hB5 : Below wa.heap.size wa w5 := Below.step' ‹_› hb5)
      | (go_split_ands; go_at_call 28; (with_reducible refine (HL.out _ _ ?_ (Blk.new _ _ _)).mono ?_); (with_reducible assumption); rintro e w5 ⟨rfl, hb5⟩; have hB5 : Below wa.heap.size wa w5 := Below.step' ‹_› hb5))
  -- STOP-b
  all_goals
    go_wp2_with fail
    -- STOP-c
    go_ret
    exact ⟨by rw [← HFIN.out]; rfl, Below.step' HB.out hB5⟩
end Go.Proofs.YtamlaeocojcgdaaDoor
/- Sets with weights are a group: the plain law. -/
namespace Go.Proofs.YtamlaeocojcgdaaDoor
set_option linter.unusedVariables false
set_option linter.unusedSimpArgs false

theorem addE_sets {a b : List It} (h1 : setI a = 0) (h2 : setI b = 0) : addE a b = doneE (sumL (a ++ b)) := by
  unfold addE; rw [if_neg (by simp [h1]), if_neg (by simp [h2])]
theorem add_comm {a b : List It} (h1 : setI a = 0) (h2 : setI b = 0) : addE a b = addE b a ∧ addX a b = addX b a := by
  have e : addE a b = addE b a := by rw [addE_sets h1 h2, addE_sets h2 h1, sumL_comm]
  exact ⟨e, by unfold addX; rw [e, sumL_comm]⟩
theorem add_set {a b : List It} (h1 : setI a = 0) (h2 : setI b = 0) (h : addE a b = 0) : setI (addX a b) = 0 ∧ addX a b = sumL (a ++ b) := by
  have e : addX a b = sumL (a ++ b) := by unfold addX; rw [if_pos h]
  rw [addE_sets h1 h2] at h
  exact ⟨by rw [e]; exact done_set h, e⟩
theorem add_assoc {a b c : List It} (h1 : setI a = 0) (h2 : setI b = 0) (h3 : setI c = 0) (h4 : addE a b = 0) (h5 : addE b c = 0) : addE (addX a b) c = addE a (addX b c) ∧ addX (addX a b) c = addX a (addX b c) := by
  obtain ⟨s1, e1⟩ := add_set h1 h2 h4
  obtain ⟨s2, e2⟩ := add_set h2 h3 h5
  have k : sumL (addX a b ++ c) = sumL (a ++ addX b c) := by
    rw [e1, e2, sumL_app_sumL, sumL_comm a (sumL (b ++ c)), sumL_app_sumL, sumL_comm (b ++ c) a, List.append_assoc]
  have e : addE (addX a b) c = addE a (addX b c) := by rw [addE_sets s1 h3, addE_sets h1 s2, k]
  exact ⟨e, by unfold addX at k ⊢; rw [show addX a b = if addE a b = 0 then sumL (a ++ b) else [] from rfl, show addX b c = if addE b c = 0 then sumL (b ++ c) else [] from rfl] at e; rw [e, k]⟩
end Go.Proofs.YtamlaeocojcgdaaDoor
/- Queries over sets with weights: the plain laws of PlainParts and PlainLinear. No program in sight. -/
namespace Go.Proofs.YtamlaeocojcgdaaDoor
set_option linter.unusedVariables false
set_option linter.unusedSimpArgs false

def wv (s : St) (W : List Int) : Int := if s.kind = 1 then 4 else if s.kind = 3 then (s.list.length : Int) else if s.kind = 4 then W.getD s.a.toNat 0 + W.getD s.b.toNat 0 else if s.kind = 8 ∨ s.kind = 9 then 2 else W.getD s.a.toNat 0
theorem stW_val {s : St} {W : List Int} (h : stW s W ≠ 0) : stW s W = wv s W := by
  unfold stW at h ⊢
  unfold wv
  by_cases h1 : s.kind = 1
  · rw [if_pos h1] at h ⊢
    rw [if_pos h1]
    split at h
    · rename_i e; rw [if_pos e]
    · exact absurd rfl h
  · rw [if_neg h1] at h ⊢
    rw [if_neg h1]
    split at h
    · exact absurd rfl h
    · rename_i e
      rw [if_neg e]
      unfold ofW at h ⊢
      generalize W.getD s.a.toNat 0 = x at *
      generalize W.getD s.b.toNat 0 = y at *
      by_cases k2 : s.kind = 2
      · rw [if_pos k2] at h ⊢
        split at h
        · rename_i e; rw [if_pos e, if_neg (show ¬ s.kind = 3 by omega), if_neg (show ¬ s.kind = 4 by omega), if_neg (show ¬ (s.kind = 8 ∨ s.kind = 9) by omega)]
        · exact absurd rfl h
      · rw [if_neg k2] at h ⊢
        by_cases k3 : s.kind = 3
        · rw [if_pos k3] at h ⊢
          split at h
          · rename_i e; rw [if_pos e, if_pos k3]
          · exact absurd rfl h
        · rw [if_neg k3] at h ⊢
          by_cases k4 : s.kind = 4
          · rw [if_pos k4] at h ⊢
            split at h
            · rename_i e; rw [if_pos e, if_neg (show ¬ s.kind = 3 by omega), if_pos k4]
            · exact absurd rfl h
          · rw [if_neg k4] at h ⊢
            by_cases k5 : s.kind = 5 ∨ s.kind = 6
            · rw [if_pos k5] at h ⊢
              split at h
              · rename_i e; rw [if_pos e, if_neg (show ¬ s.kind = 3 by omega), if_neg (show ¬ s.kind = 4 by omega), if_neg (show ¬ (s.kind = 8 ∨ s.kind = 9) by omega)]
              · exact absurd rfl h
            · rw [if_neg k5] at h ⊢
              by_cases k7 : s.kind = 7
              · rw [if_pos k7] at h ⊢
                split at h
                · rename_i e; rw [if_pos e, if_neg (show ¬ s.kind = 3 by omega), if_neg (show ¬ s.kind = 4 by omega), if_neg (show ¬ (s.kind = 8 ∨ s.kind = 9) by omega)]
                · exact absurd rfl h
              · rw [if_neg k7] at h ⊢
                by_cases k8 : s.kind = 8
                · rw [if_pos k8] at h ⊢
                  split at h
                  · rename_i e; rw [if_pos e, if_neg (show ¬ s.kind = 3 by omega), if_neg (show ¬ s.kind = 4 by omega), if_pos (show s.kind = 8 ∨ s.kind = 9 by omega)]
                  · exact absurd rfl h
                · rw [if_neg k8] at h ⊢
                  by_cases k9 : s.kind = 9
                  · rw [if_pos k9] at h ⊢
                    split at h
                    · rename_i e; rw [if_pos e, if_neg (show ¬ s.kind = 3 by omega), if_neg (show ¬ s.kind = 4 by omega), if_pos (show s.kind = 8 ∨ s.kind = 9 by omega)]
                    · exact absurd rfl h
                  · rw [if_neg k9] at h; exact absurd rfl h
/-- Right sets, of given widths. -/
def OkOut (out : List (List It)) (W : List Int) : Prop := out.length = W.length ∧ ∀ j, j < out.length → setI (out.getD j []) = 0 ∧ ∀ x ∈ out.getD j [], (x.1.length : Int) = W.getD j 0
theorem OkOut.snoc {out : List (List It)} {W : List Int} (h : OkOut out W) {S : List It} {v : Int} (h1 : setI S = 0) (h2 : ∀ x ∈ S, (x.1.length : Int) = v) : OkOut (out ++ [S]) (W ++ [v]) := by
  obtain ⟨h3, h4⟩ := h
  refine ⟨by simp [h3], fun j hj => ?_⟩
  by_cases q : j < out.length
  · have e1 : (out ++ [S]).getD j [] = out.getD j [] := by simp [List.getD, List.getElem?_append_left q]
    have e2 : (W ++ [v]).getD j 0 = W.getD j 0 := by simp [List.getD, List.getElem?_append_left (h3 ▸ q : j < W.length)]
    rw [e1, e2]
    exact h4 j q
  · have e : j = out.length := by simp at hj; omega
    subst e
    have e1 : (out ++ [S]).getD out.length [] = S := by simp [List.getD]
    have e2 : (W ++ [v]).getD out.length 0 = v := by rw [h3]; simp [List.getD]
    rw [e1, e2]
    exact ⟨h1, h2⟩
/-! the first steps alone -/
/-! what is linear -/
def Lin3 (X Y Z : List (List It)) : Prop := X.length = Z.length ∧ Y.length = Z.length ∧ ∀ j r, wt (Z.getD j []) r = wt (X.getD j [] ++ Y.getD j []) r
theorem wt_trans {a b c : List It} (h1 : ∀ r, wt a r = wt b r) (h2 : ∀ r, wt b r = wt c r) : ∀ r, wt a r = wt c r := fun r => (h1 r).trans (h2 r)
theorem Lin3.snoc {X Y Z : List (List It)} (h : Lin3 X Y Z) {x y z : List It} (hw : ∀ r, wt z r = wt (x ++ y) r) : Lin3 (X ++ [sumL x]) (Y ++ [sumL y]) (Z ++ [sumL z]) := by
  obtain ⟨h1, h2, h3⟩ := h
  refine ⟨by simp [h1], by simp [h2], fun j r => ?_⟩
  by_cases q : j < Z.length
  · have e1 : (X ++ [sumL x]).getD j [] = X.getD j [] := by simp [List.getD, List.getElem?_append_left (show j < X.length by omega)]
    have e2 : (Y ++ [sumL y]).getD j [] = Y.getD j [] := by simp [List.getD, List.getElem?_append_left (show j < Y.length by omega)]
    have e3 : (Z ++ [sumL z]).getD j [] = Z.getD j [] := by simp [List.getD, List.getElem?_append_left q]
    rw [e1, e2, e3]
    exact h3 j r
  · by_cases e : j = Z.length
    · subst e
      have e1 : (X ++ [sumL x]).getD Z.length [] = sumL x := by rw [← h1]; simp [List.getD]
      have e2 : (Y ++ [sumL y]).getD Z.length [] = sumL y := by rw [← h2]; simp [List.getD]
      have e3 : (Z ++ [sumL z]).getD Z.length [] = sumL z := by simp [List.getD]
      rw [e1, e2, e3]
      exact wt_trans (wt_sumL z) (wt_trans hw fun r => (wt_app (wt_sumL x) (wt_sumL y) r).symm) r
    · have e1 : (X ++ [sumL x]).getD j [] = [] := by rw [List.getD_eq_getElem?_getD, List.getElem?_eq_none (by simp; omega)]; rfl
      have e2 : (Y ++ [sumL y]).getD j [] = [] := by rw [List.getD_eq_getElem?_getD, List.getElem?_eq_none (by simp; omega)]; rfl
      have e3 : (Z ++ [sumL z]).getD j [] = [] := by rw [List.getD_eq_getElem?_getD, List.getElem?_eq_none (by simp; omega)]; rfl
      rw [e1, e2, e3]; rfl
end Go.Proofs.YtamlaeocojcgdaaDoor
