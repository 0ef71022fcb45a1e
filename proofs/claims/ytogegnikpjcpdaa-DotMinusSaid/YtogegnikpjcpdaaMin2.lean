/- viewkeep.DotMinus: the plain law, and the walk. -/
import Derived.Test.YtogegnikpjcpdaaLatW
namespace Go.Proofs.Ytogegnikpjcpdaa
set_option linter.unusedVariables false
open Go.ChangeShapes Go.WideShapes Go.ChangeAt Go.RowKit

theorem minusE_ok {a b : Ctx} (h : minusE a b = 0) : twoI a b = 0 ∧ minusX a b = missL a b ∧ (minusX a b).length ≤ 400 := by
  unfold minusE at h
  by_cases h0 : twoI a b = 0
  · obtain ⟨ha, hb, -, -⟩ := two_okL h0
    rw [if_neg (by simp [h0])] at h
    by_cases h4 : 400 < (clkAll a b ++ cldAll a b).length
    · rw [if_pos h4] at h; cases h
    · have e : minusX a b = missL a b := by unfold minusX; rw [if_neg (by simp [h0]), if_neg h4, minus_eq ha]
      refine ⟨h0, e, ?_⟩
      rw [e, ← (all_perm ha).length_eq]; omega
  · rw [if_pos h0] at h; exact absurd h h0
theorem minus_mem {a b : Ctx} (h : minusE a b = 0) : ∀ d ∈ minusX a b, hasB a d = true ∧ hasB b d = false ∧ rightB d.1 d.2 = true := by
  obtain ⟨h0, e, -⟩ := minusE_ok h
  obtain ⟨ha, hb, -, -⟩ := two_okL h0
  intro d hd
  rw [e] at hd
  have hr := missL_right ha hb.1 hd
  have hr2 := right_iff.1 hr
  obtain ⟨h1, h2⟩ := (missL_mem ⟨hr2.1, hr2.2.1, hr2.2.2.1⟩ hb.1).1 hd
  exact ⟨h1, h2, hr⟩
theorem has_right {a : Ctx} (ha : okC a) {d : Int × Int} (h : hasB a d = true) : 0 ≤ d.1 ∧ d.1 < 4 ∧ 1 ≤ d.2 := by
  rcases hasB_iff.1 h with h1 | h1
  · exact ⟨h1.1, h1.2.1, h1.2.2.1⟩
  · have := right_iff.1 (ha.2.1 d h1).1; exact ⟨this.1, this.2.1, this.2.2.1⟩
theorem minus_make {a b : Ctx} (h : minusE a b = 0) : makeE (minusX a b) = 0 ∧ (makeC (minusX a b)).cloud.length ≤ 400 ∧
    (joinE b (makeC (minusX a b)) = 0 → joinE a b = 0 → joinX b (makeC (minusX a b)) = joinX a b) := by
  obtain ⟨h0, e, hl⟩ := minusE_ok h
  have hm := minus_mem h
  have hany : (minusX a b).any (fun d => !rightB d.1 d.2) = false := by
    rw [List.any_eq_false]
    intro d hd
    simp [(hm d hd).2.2]
  have e1 : makeC (minusX a b) = packL 0 0 0 0 (minusX a b) := by unfold makeC; rw [if_neg (by omega), if_neg (by rw [hany]; simp)]
  have e2 : makeE (minusX a b) = 0 := by unfold makeE; rw [if_neg (by omega), if_neg (by rw [hany]; simp)]
  obtain ⟨hp, hh⟩ := pack_ok (c0 := 0) (c1 := 0) (c2 := 0) (c3 := 0) (l := minusX a b) (by simp [clkIn]) (fun d hd => (hm d hd).2.2)
  rw [e1]
  refine ⟨e2, Nat.le_trans pack_length hl, fun j1 j2 => ?_⟩
  obtain ⟨x1, -, -, y1, -, z1⟩ := joinX_ok j1
  obtain ⟨x2, ha, hb, y2, -, z2⟩ := joinX_ok j2
  rw [x1, x2]
  refine okC_ext y1 y2 fun d => ?_
  rw [z1, z2, Bool.eq_iff_iff, Bool.or_eq_true, Bool.or_eq_true, hh]
  have h00 : ¬ hasB ⟨0, 0, 0, 0, []⟩ d = true := by
    rw [hasB_iff]
    rintro (⟨_, _, h1, h2⟩ | h)
    · simp only [Ctx.at_] at h2; split at h2 <;> (try split at h2) <;> (try split at h2) <;> omega
    · simp at h
  constructor
  · rintro (h1 | h1 | h1)
    · exact .inr h1
    · exact absurd h1 h00
    · exact .inl (hm d h1).1
  · rintro (h1 | h1)
    · by_cases h2 : hasB b d = true
      · exact .inl h2
      · refine .inr (.inr ?_)
        rw [e]
        exact (missL_mem (has_right ha h1) hb.1).2 ⟨h1, by simpa using h2⟩
    · exact .inl h1
theorem maxS_ge (i : Int) : ∀ (l : List (Int × Int)) (m : Int), m ≤ l.foldl (stepS i) m ∧ ∀ d ∈ l, d.1 = i → d.2 ≤ l.foldl (stepS i) m
  | [], m => ⟨Int.le_refl _, by simp⟩
  | x :: l, m => by
    obtain ⟨h1, h2⟩ := maxS_ge i l (stepS i m x)
    have h3 := stepS_le i m x
    refine ⟨Int.le_trans h3 h1, fun d hd e => ?_⟩
    rcases List.mem_cons.1 hd with rfl | hd
    · refine Int.le_trans ?_ h1
      unfold stepS
      split <;> omega
    · exact h2 d hd e
theorem next_new {c : Ctx} {i : Int} (h : nextE c i = 0) : (nextD c i).1 = i ∧ hasB c (nextD c i) = false := by
  unfold nextE at h
  by_cases h1 : checkI c ≠ 0
  · rw [if_pos h1] at h; exact absurd h h1
  · rw [if_neg h1] at h
    by_cases h2 : inB i 0 3 = false
    · rw [if_pos h2] at h; cases h
    · rw [if_neg h2] at h
      unfold rnextE at h
      have e : nextD c i = rnextD c i := by unfold nextD; rw [if_neg h1, if_neg h2]
      by_cases h3 : 1099511627776 ≤ maxS c i
      · rw [if_pos h3] at h; cases h
      · rw [e, rnextD, if_neg h3]
        refine ⟨rfl, ?_⟩
        obtain ⟨g1, g2⟩ := maxS_ge i c.cloud (c.at_ i)
        cases hq : hasB c (i, maxS c i + 1) with
        | false => rfl
        | true =>
          rcases hasB_iff.1 hq with ⟨_, _, _, g3⟩ | g3
          · simp only at g3
            unfold maxS at g3; omega
          · have := g2 _ g3 rfl
            simp only at this
            unfold maxS at this; omega
theorem next_lit : nextD ⟨0, 5, 0, 0, []⟩ 1 = (1, 6) ∧ nextE ⟨0, 5, 0, 0, []⟩ 1 = 0 := by
  have h1 : checkI ⟨0, 5, 0, 0, []⟩ = 0 := (checkI_iff _).2 ⟨⟨by simp [clkIn], by simp, by simp⟩, by simp⟩
  have h2 : inB 1 0 3 = true := rfl
  have h3 : maxS ⟨0, 5, 0, 0, []⟩ 1 = 5 := by simp [maxS, Ctx.at_]
  constructor
  · unfold nextD; rw [if_neg (by simp [h1]), if_neg (by simp [h2])]; unfold rnextD; rw [h3]; simp
  · unfold nextE; rw [if_neg (by simp [h1]), if_neg (by simp [h2])]; unfold rnextE; rw [h3]; simp
theorem next_litC (w : World) : Calls Try.prog 23 #[.agg #[.int .i64 0, .int .i64 5, .int .i64 0, .int .i64 0, .slice none 0 0], .int .i64 1] w (DotErr (1, 6) 0 w) := by
  have h := next_any ⟨0, 5, 0, 0, []⟩ 1 none 0 w Row.nil (by simp)
  rw [next_lit.1, next_lit.2] at h
  exact h
end Go.Proofs.Ytogegnikpjcpdaa
