/- PlQ -/
import Derived.Test.YtmcdaibdpeeefaaCk08
import Derived.Test.YtmcdaibdpeeefaaCk04
/- Queries over sets with weights: the plain laws of PlainParts and PlainLinear. No program in sight. -/
namespace Go.Proofs.Ytmcdaibdpeeefaa
set_option linter.unusedVariables false
set_option linter.unusedSimpArgs false

def wv (s : St) (W : List Int) : Int := if s.kind = 1 then 4 else if s.kind = 3 then (s.list.length : Int) else if s.kind = 4 then W.getD s.a.toNat 0 + W.getD s.b.toNat 0 else if s.kind = 8 ∨ s.kind = 9 then 2 else W.getD s.a.toNat 0
theorem stW_val {s : St} {W : List Int} (h : stW s W ≠ 0) : stW s W = wv s W := by
  unfold stW at h ⊢
  unfold wv
  by_cases h1 : s.kind = 1
  · rw [if_pos h1] at h ⊢
    rw [if_pos h1]
    split at h
    · rename_i e; rw [if_pos e]
    · exact absurd rfl h
  · rw [if_neg h1] at h ⊢
    rw [if_neg h1]
    split at h
    · exact absurd rfl h
    · rename_i e
      rw [if_neg e]
      unfold ofW at h ⊢
      generalize W.getD s.a.toNat 0 = x at *
      generalize W.getD s.b.toNat 0 = y at *
      by_cases k2 : s.kind = 2
      · rw [if_pos k2] at h ⊢
        split at h
        · rename_i e; rw [if_pos e, if_neg (show ¬ s.kind = 3 by omega), if_neg (show ¬ s.kind = 4 by omega), if_neg (show ¬ (s.kind = 8 ∨ s.kind = 9) by omega)]
        · exact absurd rfl h
      · rw [if_neg k2] at h ⊢
        by_cases k3 : s.kind = 3
        · rw [if_pos k3] at h ⊢
          split at h
          · rename_i e; rw [if_pos e, if_pos k3]
          · exact absurd rfl h
        · rw [if_neg k3] at h ⊢
          by_cases k4 : s.kind = 4
          · rw [if_pos k4] at h ⊢
            split at h
            · rename_i e; rw [if_pos e, if_neg (show ¬ s.kind = 3 by omega), if_pos k4]
            · exact absurd rfl h
          · rw [if_neg k4] at h ⊢
            by_cases k5 : s.kind = 5 ∨ s.kind = 6
            · rw [if_pos k5] at h ⊢
              split at h
              · rename_i e; rw [if_pos e, if_neg (show ¬ s.kind = 3 by omega), if_neg (show ¬ s.kind = 4 by omega), if_neg (show ¬ (s.kind = 8 ∨ s.kind = 9) by omega)]
              · exact absurd rfl h
            · rw [if_neg k5] at h ⊢
              by_cases k7 : s.kind = 7
              · rw [if_pos k7] at h ⊢
                split at h
                · rename_i e; rw [if_pos e, if_neg (show ¬ s.kind = 3 by omega), if_neg (show ¬ s.kind = 4 by omega), if_neg (show ¬ (s.kind = 8 ∨ s.kind = 9) by omega)]
                · exact absurd rfl h
              · rw [if_neg k7] at h ⊢
                by_cases k8 : s.kind = 8
                · rw [if_pos k8] at h ⊢
                  split at h
                  · rename_i e; rw [if_pos e, if_neg (show ¬ s.kind = 3 by omega), if_neg (show ¬ s.kind = 4 by omega), if_pos (show s.kind = 8 ∨ s.kind = 9 by omega)]
                  · exact absurd rfl h
                · rw [if_neg k8] at h ⊢
                  by_cases k9 : s.kind = 9
                  · rw [if_pos k9] at h ⊢
                    split at h
                    · rename_i e; rw [if_pos e, if_neg (show ¬ s.kind = 3 by omega), if_neg (show ¬ s.kind = 4 by omega), if_pos (show s.kind = 8 ∨ s.kind = 9 by omega)]
                    · exact absurd rfl h
                  · rw [if_neg k9] at h; exact absurd rfl h
/-- Right sets, of given widths. -/
def OkOut (out : List (List It)) (W : List Int) : Prop := out.length = W.length ∧ ∀ j, j < out.length → setI (out.getD j []) = 0 ∧ ∀ x ∈ out.getD j [], (x.1.length : Int) = W.getD j 0
theorem okOut_nil : OkOut [] [] := ⟨rfl, fun j h => by simp at h⟩
theorem OkOut.snoc {out : List (List It)} {W : List Int} (h : OkOut out W) {S : List It} {v : Int} (h1 : setI S = 0) (h2 : ∀ x ∈ S, (x.1.length : Int) = v) : OkOut (out ++ [S]) (W ++ [v]) := by
  obtain ⟨h3, h4⟩ := h
  refine ⟨by simp [h3], fun j hj => ?_⟩
  by_cases q : j < out.length
  · have e1 : (out ++ [S]).getD j [] = out.getD j [] := by simp [List.getD, List.getElem?_append_left q]
    have e2 : (W ++ [v]).getD j 0 = W.getD j 0 := by simp [List.getD, List.getElem?_append_left (h3 ▸ q : j < W.length)]
    rw [e1, e2]
    exact h4 j q
  · have e : j = out.length := by simp at hj; omega
    subst e
    have e1 : (out ++ [S]).getD out.length [] = S := by simp [List.getD]
    have e2 : (W ++ [v]).getD out.length 0 = v := by rw [h3]; simp [List.getD]
    rw [e1, e2]
    exact ⟨h1, h2⟩
theorem OkOut.get {out : List (List It)} {W : List Int} (h : OkOut out W) {i : Int} (h0 : 0 ≤ i) (h1 : i < W.length) : setI (out.getD i.toNat []) = 0 ∧ ∀ x ∈ out.getD i.toNat [], (x.1.length : Int) = W.getD i.toNat 0 := h.2 i.toNat (by rw [h.1]; omega)
theorem atL_wide {s : St} {W : List Int} {out : List (List It)} {ta tb : List It} (h : stW s W ≠ 0) (ho : OkOut out W) (ha : ∀ x ∈ ta, x.1.length = 4) (hb : ∀ x ∈ tb, x.1.length = 4) : ∀ x ∈ atL ta tb s out, (x.1.length : Int) = stW s W := by
  rw [stW_val h]
  intro x hx
  unfold atL at hx
  unfold wv
  rcases stW_ok h with ⟨k1, ka⟩ | ⟨a0, a1, b0, b1, hk⟩
  · rw [if_pos k1] at hx ⊢
    split at hx
    · have := ha x hx; omega
    · have := hb x hx; omega
  · obtain ⟨-, hA⟩ := ho.get a0 a1
    obtain ⟨-, hB⟩ := ho.get b0 b1
    have n1 : s.kind ≠ 1 := by omega
    rw [if_neg n1] at hx ⊢
    generalize out.getD s.a.toNat [] = A at *
    generalize out.getD s.b.toNat [] = B at *
    generalize W.getD s.a.toNat 0 = u at *
    generalize W.getD s.b.toNat 0 = v at *
    unfold stL linB linL at hx
    rcases hk with ⟨k, -⟩ | ⟨k, -⟩ | ⟨k, -⟩ | ⟨k, e⟩ | k | ⟨k, -⟩ | ⟨k, -⟩
    · rw [if_pos (by simp [k]), if_pos k] at hx
      rw [if_neg (by omega), if_neg (by omega), if_neg (by omega)]
      exact hA x (List.mem_filter.1 hx).1
    · rw [if_pos (by simp [k]), if_neg (by omega), if_pos k] at hx
      rw [if_pos k]
      obtain ⟨y, hy, rfl⟩ := List.mem_map.1 hx
      simp [pickR]
    · rw [if_neg (by simp [k]), if_pos k] at hx
      rw [if_neg (by omega), if_pos k]
      obtain ⟨y, hy, hx⟩ := List.mem_flatMap.1 hx
      obtain ⟨z, hz, rfl⟩ := List.mem_map.1 hx
      have := hA y hy
      have := hB z (List.mem_filter.1 hz).1
      simp only [List.length_append]
      omega
    · rw [if_pos (by rcases k with k | k <;> simp [k]), if_neg (by omega), if_neg (by omega)] at hx
      rw [if_neg (by omega), if_neg (by omega), if_neg (by omega)]
      have key : x ∈ A ∨ ∃ y ∈ B, y.1 = x.1 := by
        rcases k with k | k
        · rw [if_pos k] at hx
          rcases List.mem_append.1 hx with q | q
          · exact .inl q
          · exact .inr ⟨x, q, rfl⟩
        · rw [if_neg (by omega), if_pos k] at hx
          rcases List.mem_append.1 hx with q | q
          · exact .inl q
          · obtain ⟨y, hy, rfl⟩ := List.mem_map.1 q
            exact .inr ⟨y, hy, rfl⟩
      rcases key with q | ⟨y, hy, e2⟩
      · exact hA x q
      · rw [← e2, e]; exact hB y hy
    · rw [if_neg (by simp [k]), if_neg (by omega), if_pos k] at hx
      rw [if_neg (by omega), if_neg (by omega), if_neg (by omega)]
      obtain ⟨y, hy, rfl⟩ := List.mem_map.1 hx
      exact hA y (List.mem_filter.1 hy).1
    · rw [if_neg (by simp [k]), if_neg (by omega), if_neg (by omega), if_pos (by omega)] at hx
      rw [if_neg (by omega), if_neg (by omega), if_pos (by omega)]
      obtain ⟨y, hy, hx⟩ := List.mem_flatMap.1 hx
      unfold toldL at hx
      split at hx
      · simp at hx
      · rw [List.mem_singleton.1 hx]; rfl
    · rw [if_neg (by simp [k]), if_neg (by omega), if_neg (by omega), if_pos (by omega)] at hx
      rw [if_neg (by omega), if_neg (by omega), if_pos (by omega)]
      obtain ⟨y, hy, hx⟩ := List.mem_flatMap.1 hx
      unfold toldL at hx
      split at hx
      · simp at hx
      · rw [List.mem_singleton.1 hx]; rfl
theorem setsG_ok {ta tb : List It} (ha : ∀ x ∈ ta, x.1.length = 4) (hb : ∀ x ∈ tb, x.1.length = 4) : ∀ {q : List St} {out : List (List It)} {W V : List Int}, widsL q W = some V → OkOut out W → (setsG ta tb q out).1 = 0 → OkOut (setsG ta tb q out).2 V
  | [], out, W, V, h, ho, _ => by
    rw [widsL] at h; injection h with h; subst h; exact ho
  | s :: q, out, W, V, h, ho, h0 => by
    rw [widsL] at h
    rw [setsG] at h0 ⊢
    by_cases e : stW s W = 0
    · rw [if_pos e] at h; cases h
    · rw [if_neg e] at h
      by_cases d : doneE (sumL (atL ta tb s out)) ≠ 0
      · rw [if_pos d] at h0; exact absurd h0 d
      · rw [if_neg d] at h0 ⊢
        refine setsG_ok ha hb h (ho.snoc (done_set (by omega)) fun x hx => ?_) h0
        obtain ⟨y, hy, e2⟩ := sumL_mem hx
        rw [← e2]
        exact atL_wide e ho ha hb y hy
theorem allE_zero {q : List St} {a b : List It} : allE q a b = 0 ↔ basesE q a b = 0 ∧ (setsG a b q []).1 = 0 := by
  unfold allE
  constructor
  · intro h
    by_cases e : basesE q a b ≠ 0
    · rw [if_pos e] at h; exact absurd h e
    · rw [if_neg e] at h; exact ⟨by omega, h⟩
  · rintro ⟨h1, h2⟩
    rw [if_neg (by simp [h1]), h2]
theorem allX_zero {q : List St} {a b : List It} (h : allE q a b = 0) : allX q a b = (setsG a b q []).2 := by unfold allX; rw [if_pos h]
theorem all_ok {q : List St} {a b : List It} (h : allE q a b = 0) : ∃ W, widsL q [] = some W ∧ OkOut (allX q a b) W ∧ (allX q a b).length = q.length ∧ 0 < q.length := by
  obtain ⟨h1, h2⟩ := allE_zero.1 h
  obtain ⟨b1, b2, b3, b4, b5⟩ := basesE_zero.1 h1
  obtain ⟨q1, q2, W, q3⟩ := queryE_zero.1 b1
  rw [allX_zero h]
  refine ⟨W, q3, setsG_ok b4 b5 q3 okOut_nil h2, ?_, q1⟩
  rw [(setsG_len a b q [] h2).1]; simp
theorem widsL_pos : ∀ {q : List St} {W V : List Int}, widsL q W = some V → (∀ w ∈ W, w ≠ 0) → ∀ v ∈ V, v ≠ 0
  | [], W, V, h, hw => by rw [widsL] at h; injection h with h; subst h; exact hw
  | s :: q, W, V, h, hw => by
    rw [widsL] at h
    by_cases e : stW s W = 0
    · rw [if_pos e] at h; cases h
    · rw [if_neg e] at h
      refine widsL_pos h fun w hm => ?_
      rcases List.mem_append.1 hm with q | q
      · exact hw w q
      · rw [List.mem_singleton.1 q]; exact e

/-! the first steps alone -/
theorem take_law {q : List St} {a b : List It} (h : allE q a b = 0) {k : Nat} (hk : k < q.length) : allE (q.take (k + 1)) a b = 0 ∧ evalX (q.take (k + 1)) a b = (allX q a b).getD k [] := by
  obtain ⟨h1, h2⟩ := allE_zero.1 h
  obtain ⟨b1, b2, b3, b4, b5⟩ := basesE_zero.1 h1
  obtain ⟨q1, q2, W, q3⟩ := queryE_zero.1 b1
  have hs : q = q.take (k + 1) ++ q.drop (k + 1) := (List.take_append_drop ..).symm
  have hl : (q.take (k + 1)).length = k + 1 := by rw [List.length_take]; omega
  have e3 : ∃ V, widsL (q.take (k + 1)) [] = some V := by
    rw [hs, widsL_app] at q3
    cases e : widsL (q.take (k + 1)) [] with
    | none => rw [e] at q3; simp at q3
    | some V => exact ⟨V, rfl⟩
  have e4 : queryE (q.take (k + 1)) = 0 := queryE_zero.2 ⟨by omega, by omega, e3⟩
  have h3 := h2
  rw [hs, setsG_app] at h3
  have e5 : (setsG a b (q.take (k + 1)) []).1 = 0 := by
    by_cases e : (setsG a b (q.take (k + 1)) []).1 = 0
    · exact e
    · rw [if_neg e] at h3; exact h3
  have e6 : allE (q.take (k + 1)) a b = 0 := allE_zero.2 ⟨basesE_zero.2 ⟨e4, b2, b3, b4, b5⟩, e5⟩
  refine ⟨e6, ?_⟩
  rw [if_pos e5] at h3
  have l1 := (setsG_len a b _ _ e5).1
  rw [hl] at l1
  have l2 := (setsG_len a b _ _ h3).2
  unfold evalX
  rw [allX_zero e6, allX_zero h]
  have e7 : (setsG a b q []).2 = (setsG a b (q.drop (k + 1)) (setsG a b (q.take (k + 1)) []).2).2 := by
    conv => lhs; rw [hs, setsG_app, if_pos e5]
  rw [e7]
  generalize (setsG a b (q.take (k + 1)) []).2 = X at *
  generalize (setsG a b (q.drop (k + 1)) X).2 = Y at *
  have hX : X.length = k + 1 := by simpa using l1
  rw [← l2, List.getLastD_eq_getLast?, List.getLast?_take]
  rw [if_neg (by omega)]
  have hk2 : X.length - 1 = k := by omega
  rw [hk2]
  have hY : k < Y.length := by
    have := congrArg List.length l2
    rw [List.length_take] at this
    omega
  rw [List.getElem?_eq_getElem hY]
  simp [List.getD, hY]
/-- One step more, of the last one: it is there if its width is something, and its set may be. -/
theorem more_law {q : List St} {a b : List It} (h : allE q a b = 0) (hq : q.length ≤ 7) (s : St) (h1 : ∀ W, OkOut (allX q a b) W → W.length = q.length → (∀ w ∈ W, w ≠ 0) → stW s W ≠ 0) (h2 : doneE (sumL (atL a b s (allX q a b))) = 0) :
    allE (q ++ [s]) a b = 0 ∧ allX (q ++ [s]) a b = allX q a b ++ [sumL (atL a b s (allX q a b))] := by
  obtain ⟨W, hW, ho, hl, hp⟩ := all_ok h
  obtain ⟨g1, g2⟩ := allE_zero.1 h
  obtain ⟨b1, b2, b3, b4, b5⟩ := basesE_zero.1 g1
  have hwl := (widsL_len hW).1
  have hst := h1 W ho (by simpa using hwl) (widsL_pos hW (by simp))
  have e1 : queryE (q ++ [s]) = 0 := queryE_zero.2 ⟨by simp, by simp; omega, W ++ [stW s W], by rw [widsL_app, hW]; simp only [widsL]; rw [if_neg hst]⟩
  rw [allX_zero h] at h2 ⊢
  have e2 : setsG a b (q ++ [s]) [] = (0, (setsG a b q []).2 ++ [sumL (atL a b s (setsG a b q []).2)]) := by
    rw [setsG_app, if_pos g2, setsG, if_neg (by simp [h2]), setsG]
  have e3 : allE (q ++ [s]) a b = 0 := allE_zero.2 ⟨basesE_zero.2 ⟨e1, b2, b3, b4, b5⟩, by rw [e2]⟩
  exact ⟨e3, by rw [allX_zero e3, e2]⟩
theorem getD_last {α : Type} (l : List α) (d : α) (h : 0 < l.length) : l.getD (l.length - 1) d = l.getLastD d := by
  rw [List.getLastD_eq_getLast?, List.getLast?_eq_getElem?]; rfl
theorem sum_neg_self (a : List It) : sumL (a ++ negL a) = [] := by
  refine (sumL_eq (S := []) trivial fun r => ?_).symm
  unfold wt
  rw [tot_app, tot_neg]
  have : tot r a + -tot r a = 0 := by omega
  rw [this]; rfl
theorem stW_last {s : St} {W : List Int} {n : Nat} (hn : W.length = n + 1) (hw : ∀ w ∈ W, w ≠ 0) (ha : s.a = n) (hk : (s.kind = 6 ∧ s.b = n) ∨ (s.kind = 7 ∧ s.b = 0)) (h1 : s.col = 0) (h2 : s.op = 0) (h3 : s.val = 0) (h4 : s.list = []) : stW s W ≠ 0 := by
  have hg : W.getD n 0 ≠ 0 := by
    have : n < W.length := by omega
    rw [List.getD_eq_getElem?_getD, List.getElem?_eq_getElem this]
    exact hw _ (List.getElem_mem this)
  unfold stW
  rw [if_neg (by omega), if_neg]
  · unfold ofW noneB
    rw [ha]
    have e : ((n : Int)).toNat = n := by omega
    rw [e]
    rcases hk with ⟨k, hb⟩ | ⟨k, hb⟩
    · rw [hb, e, if_neg (by omega), if_neg (by omega), if_neg (by omega), if_pos (by omega), if_pos (by simp [h1, h2, h3])]
      exact hg
    · rw [if_neg (by omega), if_neg (by omega), if_neg (by omega), if_neg (by omega), if_pos k, if_pos (by simp [h1, h2, h3])]
      exact hg
  · unfold badStep
    have e : (((n + 1 : Nat) : Int) - 1) = (n : Int) := by omega
    rw [hn, e, ha, h4]
    have w1 : wiB (n : Int) 0 (n : Int) = true := wiB_iff.2 (by omega)
    rcases hk with ⟨k, hb⟩ | ⟨k, hb⟩
    · have t : twoB s = true := by simp [twoB, k]
      simp [t, hb, w1, k]
    · have t : twoB s = false := by simp [twoB, k]
      simp [t, hb, w1, k]
theorem none_law {q : List St} {a b : List It} (h : allE q a b = 0) (hq : q.length ≤ 6) : allE (q ++ [⟨6, (q.length : Int) - 1, (q.length : Int) - 1, 0, 0, 0, []⟩]) a b = 0 ∧ evalX (q ++ [⟨6, (q.length : Int) - 1, (q.length : Int) - 1, 0, 0, 0, []⟩]) a b = [] := by
  obtain ⟨W, hW, ho, hl, hp⟩ := all_ok h
  have e0 : ((q.length : Int) - 1) = ((q.length - 1 : Nat) : Int) := by omega
  rw [e0]
  have hat : atL a b ⟨6, ((q.length - 1 : Nat) : Int), ((q.length - 1 : Nat) : Int), 0, 0, 0, []⟩ (allX q a b) = evalX q a b ++ negL (evalX q a b) := by
    unfold atL stL linB linL evalX
    simp only [Int.toNat_natCast]
    rw [← hl, getD_last _ _ (by omega)]
    rfl
  obtain ⟨h1, h2⟩ := more_law h (by omega) ⟨6, ((q.length - 1 : Nat) : Int), ((q.length - 1 : Nat) : Int), 0, 0, 0, []⟩ (fun W _ hw hn => stW_last (n := q.length - 1) (by omega) hn rfl (.inl ⟨rfl, rfl⟩) rfl rfl rfl rfl) (by rw [hat, sum_neg_self]; rfl)
  refine ⟨h1, ?_⟩
  rw [evalX, h2, hat, sum_neg_self]
  simp
theorem dist_set {S : List It} (h : setI S = 0) : setI (distL S) = 0 ∧ sumL (distL S) = distL S ∧ distL (distL S) = distL S := by
  obtain ⟨h1, h2, h3⟩ := setI_zero.1 h
  have hmem : ∀ x ∈ distL S, ∃ y ∈ S, x = (y.1, 1) := fun x hx => by
    obtain ⟨y, hy, rfl⟩ := List.mem_map.1 hx
    exact ⟨y, (List.mem_filter.1 hy).1, rfl⟩
  have hs : setI (distL S) = 0 := by
    refine setI_zero.2 ⟨?_, fun x hx => ?_, strict_of (fun x hx => ?_) ?_⟩
    · unfold distL
      rw [List.length_map]
      exact Nat.le_trans (List.length_filter_le _ _) h1
    · obtain ⟨y, hy, rfl⟩ := hmem x hx
      have := h2 y hy
      unfold badB farB at this ⊢
      simp only [Bool.or_eq_false_iff, decide_eq_false_iff_not] at this ⊢
      exact ⟨this.1, by omega, by omega⟩
    · obtain ⟨y, hy, rfl⟩ := hmem x hx
      exact ⟨Int.one_ne_zero, wrp_id (show -9223372036854775808 ≤ (1 : Int) ∧ (1 : Int) ≤ 9223372036854775807 by decide)⟩
    · unfold distL
      exact List.pairwise_map.2 (List.Pairwise.sublist List.filter_sublist ((strict_pair h3).imp fun {x y} h => h))
  refine ⟨hs, sumL_strict (setI_zero.1 hs).2.2, ?_⟩
  have hf : (distL S).filter (fun x => decide (0 < x.2)) = distL S := List.filter_eq_self.2 fun x hx => by
    obtain ⟨y, hy, rfl⟩ := hmem x hx
    simp
  have hm : (distL S).map (fun x => (x.1, (1 : Int))) = distL S := by
    conv => rhs; rw [← List.map_id (distL S)]
    exact List.map_congr_left fun x hx => by
      obtain ⟨y, hy, rfl⟩ := hmem x hx
      rfl
  show ((distL S).filter (fun x => decide (0 < x.2))).map (fun x => (x.1, (1 : Int))) = distL S
  rw [hf, hm]
theorem set_done {S : List It} (h : setI S = 0) : doneE S = 0 := doneE_zero.2 ⟨(setI_zero.1 h).1, (setI_zero.1 h).2.1⟩
theorem once_law {q : List St} {a b : List It} (h : allE q a b = 0) (hq : q.length ≤ 6) :
    allE (q ++ [⟨7, (q.length : Int) - 1, 0, 0, 0, 0, []⟩]) a b = 0 ∧ allE (q ++ [⟨7, (q.length : Int) - 1, 0, 0, 0, 0, []⟩, ⟨7, (q.length : Int), 0, 0, 0, 0, []⟩]) a b = 0 ∧
    evalX (q ++ [⟨7, (q.length : Int) - 1, 0, 0, 0, 0, []⟩]) a b = evalX (q ++ [⟨7, (q.length : Int) - 1, 0, 0, 0, 0, []⟩, ⟨7, (q.length : Int), 0, 0, 0, 0, []⟩]) a b := by
  obtain ⟨W, hW, ho, hl, hp⟩ := all_ok h
  have e0 : ((q.length : Int) - 1) = ((q.length - 1 : Nat) : Int) := by omega
  rw [e0]
  have hset : setI (evalX q a b) = 0 := by
    have := (ho.2 (q.length - 1) (by omega)).1
    rwa [← hl, getD_last _ _ (by omega)] at this
  obtain ⟨d1, d2, d3⟩ := dist_set hset
  have hat : atL a b ⟨7, ((q.length - 1 : Nat) : Int), 0, 0, 0, 0, []⟩ (allX q a b) = distL (evalX q a b) := by
    unfold atL stL linB linL evalX
    simp only [Int.toNat_natCast]
    rw [← hl, getD_last _ _ (by omega)]
    rfl
  obtain ⟨h1, h2⟩ := more_law h (by omega) ⟨7, ((q.length - 1 : Nat) : Int), 0, 0, 0, 0, []⟩ (fun W _ hw hn => stW_last (n := q.length - 1) (by omega) hn rfl (.inr ⟨rfl, rfl⟩) rfl rfl rfl rfl) (by rw [hat, d2]; exact set_done d1)
  rw [hat, d2] at h2
  have he : evalX (q ++ [⟨7, ((q.length - 1 : Nat) : Int), 0, 0, 0, 0, []⟩]) a b = distL (evalX q a b) := by rw [evalX, h2]; simp
  have hl2 : (allX (q ++ [⟨7, ((q.length - 1 : Nat) : Int), 0, 0, 0, 0, []⟩]) a b).length = q.length + 1 := by rw [h2]; simp [hl]
  have hat2 : atL a b ⟨7, (q.length : Int), 0, 0, 0, 0, []⟩ (allX (q ++ [⟨7, ((q.length - 1 : Nat) : Int), 0, 0, 0, 0, []⟩]) a b) = distL (evalX q a b) := by
    unfold atL stL linB linL
    simp only [Int.toNat_natCast]
    have : (allX (q ++ [⟨7, ((q.length - 1 : Nat) : Int), 0, 0, 0, 0, []⟩]) a b).getD q.length [] = distL (evalX q a b) := by rw [h2, ← hl]; simp [List.getD]
    rw [this]
    exact d3
  obtain ⟨k1, k2⟩ := more_law h1 (by simp; omega) ⟨7, (q.length : Int), 0, 0, 0, 0, []⟩ (fun W _ hw hn => stW_last (n := q.length) (by simpa using hw) hn rfl (.inr ⟨rfl, rfl⟩) rfl rfl rfl rfl) (by rw [hat2, d2]; exact set_done d1)
  rw [hat2, d2] at k2
  rw [List.append_assoc] at k1 k2
  refine ⟨h1, k1, ?_⟩
  rw [he]
  have e3 : evalX (q ++ ([⟨7, ((q.length - 1 : Nat) : Int), 0, 0, 0, 0, []⟩] ++ [⟨7, (q.length : Int), 0, 0, 0, 0, []⟩])) a b = distL (evalX q a b) := by
    unfold evalX at k2 ⊢
    rw [k2]
    simp
  exact e3.symm

/-! what is linear -/
def Lin3 (X Y Z : List (List It)) : Prop := X.length = Z.length ∧ Y.length = Z.length ∧ ∀ j r, wt (Z.getD j []) r = wt (X.getD j [] ++ Y.getD j []) r
theorem wt_trans {a b c : List It} (h1 : ∀ r, wt a r = wt b r) (h2 : ∀ r, wt b r = wt c r) : ∀ r, wt a r = wt c r := fun r => (h1 r).trans (h2 r)
theorem Lin3.snoc {X Y Z : List (List It)} (h : Lin3 X Y Z) {x y z : List It} (hw : ∀ r, wt z r = wt (x ++ y) r) : Lin3 (X ++ [sumL x]) (Y ++ [sumL y]) (Z ++ [sumL z]) := by
  obtain ⟨h1, h2, h3⟩ := h
  refine ⟨by simp [h1], by simp [h2], fun j r => ?_⟩
  by_cases q : j < Z.length
  · have e1 : (X ++ [sumL x]).getD j [] = X.getD j [] := by simp [List.getD, List.getElem?_append_left (show j < X.length by omega)]
    have e2 : (Y ++ [sumL y]).getD j [] = Y.getD j [] := by simp [List.getD, List.getElem?_append_left (show j < Y.length by omega)]
    have e3 : (Z ++ [sumL z]).getD j [] = Z.getD j [] := by simp [List.getD, List.getElem?_append_left q]
    rw [e1, e2, e3]
    exact h3 j r
  · by_cases e : j = Z.length
    · subst e
      have e1 : (X ++ [sumL x]).getD Z.length [] = sumL x := by rw [← h1]; simp [List.getD]
      have e2 : (Y ++ [sumL y]).getD Z.length [] = sumL y := by rw [← h2]; simp [List.getD]
      have e3 : (Z ++ [sumL z]).getD Z.length [] = sumL z := by simp [List.getD]
      rw [e1, e2, e3]
      exact wt_trans (wt_sumL z) (wt_trans hw fun r => (wt_app (wt_sumL x) (wt_sumL y) r).symm) r
    · have e1 : (X ++ [sumL x]).getD j [] = [] := by rw [List.getD_eq_getElem?_getD, List.getElem?_eq_none (by simp; omega)]; rfl
      have e2 : (Y ++ [sumL y]).getD j [] = [] := by rw [List.getD_eq_getElem?_getD, List.getElem?_eq_none (by simp; omega)]; rfl
      have e3 : (Z ++ [sumL z]).getD j [] = [] := by rw [List.getD_eq_getElem?_getD, List.getElem?_eq_none (by simp; omega)]; rfl
      rw [e1, e2, e3]; rfl
theorem linL_law {s : St} {A B A' B' A'' B'' : List It} (hA : ∀ r, wt A'' r = wt (A ++ A') r) (hB : ∀ r, wt B'' r = wt (B ++ B') r) : ∀ r, wt (linL s A'' B'') r = wt (linL s A B ++ linL s A' B') r := by
  unfold linL
  by_cases k2 : s.kind = 2
  · simp only [if_pos k2]
    unfold whereL
    rw [← List.filter_append]
    exact wt_where hA (fun r => stHolds s.op (colD r s.col) s.val)
  · simp only [if_neg k2]
    by_cases k3 : s.kind = 3
    · simp only [if_pos k3]
      unfold pickL
      rw [← List.map_append]
      exact wt_pick hA (pickR s)
    · simp only [if_neg k3]
      by_cases k5 : s.kind = 5
      · simp only [if_pos k5]
        refine wt_trans (wt_app hA hB) (wt_perm ?_)
        rw [List.append_assoc, List.append_assoc]
        refine List.Perm.append_left A ?_
        rw [← List.append_assoc, ← List.append_assoc]
        exact List.Perm.append_right B' List.perm_append_comm
      · simp only [if_neg k5]
        by_cases k6 : s.kind = 6
        · simp only [if_pos k6]
          refine wt_trans (wt_app hA (wt_neg hB)) (wt_perm ?_)
          unfold negL
          rw [List.map_append, List.append_assoc, List.append_assoc]
          refine List.Perm.append_left A ?_
          rw [← List.append_assoc, ← List.append_assoc]
          exact List.Perm.append_right _ List.perm_append_comm
        · simp only [if_neg k6]
          intro r; rfl
theorem setsG_lin {a b c d ac bd : List It} (h1 : ∀ r, wt ac r = wt (a ++ c) r) (h2 : ∀ r, wt bd r = wt (b ++ d) r) : ∀ {q : List St} {X Y Z : List (List It)} {W V : List Int}, (∀ s ∈ q, s.kind ≠ 4 ∧ s.kind ≤ 6) → widsL q W = some V → Lin3 X Y Z →
    (setsG a b q X).1 = 0 → (setsG c d q Y).1 = 0 → (setsG ac bd q Z).1 = 0 → Lin3 (setsG a b q X).2 (setsG c d q Y).2 (setsG ac bd q Z).2
  | [], X, Y, Z, W, V, _, _, h, _, _, _ => h
  | s :: q, X, Y, Z, W, V, hk, hw, h, z1, z2, z3 => by
    rw [widsL] at hw
    rw [setsG] at z1 z2 z3 ⊢
    rw [setsG, setsG]
    by_cases e : stW s W = 0
    · rw [if_pos e] at hw; cases hw
    · rw [if_neg e] at hw
      by_cases d1 : doneE (sumL (atL a b s X)) ≠ 0
      · rw [if_pos d1] at z1; exact absurd z1 d1
      · rw [if_neg d1] at z1 ⊢
        by_cases d2 : doneE (sumL (atL c d s Y)) ≠ 0
        · rw [if_pos d2] at z2; exact absurd z2 d2
        · rw [if_neg d2] at z2 ⊢
          by_cases d3 : doneE (sumL (atL ac bd s Z)) ≠ 0
          · rw [if_pos d3] at z3; exact absurd z3 d3
          · rw [if_neg d3] at z3 ⊢
            refine setsG_lin h1 h2 (fun s hs => hk s (by simp [hs])) hw (h.snoc ?_) z1 z2 z3
            have hks := hk s (by simp)
            unfold atL
            rcases stW_ok e with ⟨k1, _⟩ | ⟨_, _, _, _, hk7⟩
            · simp only [if_pos k1]
              split
              · exact h1
              · exact h2
            · have n1 : s.kind ≠ 1 := by omega
              simp only [if_neg n1]
              have hl : linB s = true := by
                unfold linB
                simp only [Bool.or_eq_true, beq_iff_eq]
                omega
              unfold stL
              simp only [if_pos hl]
              exact linL_law (h.2.2 _) (h.2.2 _)
theorem linear_law {q : List St} {a b c d : List It} (hk : ∀ s ∈ q, s.kind ≠ 4 ∧ s.kind ≤ 6) (h1 : allE q a b = 0) (h2 : allE q c d = 0) (h3 : addE a c = 0) (h4 : addE b d = 0) (h5 : allE q (addX a c) (addX b d) = 0) (h6 : addE (evalX q a b) (evalX q c d) = 0) :
    evalX q (addX a c) (addX b d) = addX (evalX q a b) (evalX q c d) := by
  obtain ⟨W, hW, ho, hl, hp⟩ := all_ok h5
  obtain ⟨g1, g2⟩ := allE_zero.1 h1
  obtain ⟨-, g4⟩ := allE_zero.1 h2
  obtain ⟨-, g6⟩ := allE_zero.1 h5
  have e1 : addX a c = sumL (a ++ c) := by unfold addX; rw [if_pos h3]
  have e2 : addX b d = sumL (b ++ d) := by unfold addX; rw [if_pos h4]
  have hL := setsG_lin (X := []) (Y := []) (Z := []) (a := a) (b := b) (c := c) (d := d) (ac := addX a c) (bd := addX b d) (by rw [e1]; exact wt_sumL _) (by rw [e2]; exact wt_sumL _) hk hW ⟨rfl, rfl, fun _ _ => rfl⟩ g2 g4 g6
  rw [← allX_zero h1, ← allX_zero h2, ← allX_zero h5] at hL
  obtain ⟨l1, l2, l3⟩ := hL
  have l4 := l3 (q.length - 1)
  have hset := (ho.2 (q.length - 1) (by omega)).1
  have s1 : (allX q (addX a c) (addX b d)).getD (q.length - 1) [] = evalX q (addX a c) (addX b d) := by rw [← hl, getD_last _ _ (by omega)]; rfl
  have s2 : (allX q a b).getD (q.length - 1) [] = evalX q a b := by rw [← hl, ← l1, getD_last _ _ (by omega)]; rfl
  have s3 : (allX q c d).getD (q.length - 1) [] = evalX q c d := by rw [← hl, ← l2, getD_last _ _ (by omega)]; rfl
  rw [s1] at hset
  rw [s1, s2, s3] at l4
  have e3 : addX (evalX q a b) (evalX q c d) = sumL (evalX q a b ++ evalX q c d) := by unfold addX; rw [if_pos h6]
  rw [e3]
  exact sumL_eq (setI_zero.1 hset).2.2 l4
end Go.Proofs.Ytmcdaibdpeeefaa
