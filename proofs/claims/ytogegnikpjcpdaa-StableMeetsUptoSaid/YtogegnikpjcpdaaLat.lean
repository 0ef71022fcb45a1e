/- viewkeep.DotLattice: the plain law, and the walk. -/
import Derived.Test.YtogegnikpjcpdaaJoined
namespace Go.Proofs.Ytogegnikpjcpdaa
set_option linter.unusedVariables false
open Go.ChangeShapes Go.WideShapes Go.ChangeAt Go.RowKit

theorem two_okL {a b : Ctx} (h : twoI a b = 0) : okC a ∧ okC b ∧ a.cloud.length ≤ 400 ∧ b.cloud.length ≤ 400 := by
  obtain ⟨h1, h2⟩ := twoI_zero.1 h
  obtain ⟨h3, h4⟩ := (checkI_iff a).1 h1
  obtain ⟨h5, h6⟩ := (checkI_iff b).1 h2
  exact ⟨h3, h5, h4, h6⟩
theorem twoI_comm {a b : Ctx} : twoI a b = 0 ↔ twoI b a = 0 := by rw [twoI_zero, twoI_zero]; exact And.comm
theorem checkI_pos {a : Ctx} (h : checkI a ≠ 0) : checkI a ≠ 0 := h
/-- When a join succeeds. -/
theorem joinE_zero {a b : Ctx} : joinE a b = 0 ↔ twoI a b = 0 ∧ (joinC a b).cloud.length ≤ 400 := by
  unfold joinE
  by_cases h : twoI a b = 0
  · rw [if_neg (by simp [h])]
    by_cases h4 : 400 < (joinC a b).cloud.length
    · rw [if_pos h4]; simp; omega
    · rw [if_neg h4]; simp [h]; omega
  · rw [if_pos h]; simp [h]
theorem joinX_ok {a b : Ctx} (h : joinE a b = 0) : joinX a b = joinC a b ∧ okC a ∧ okC b ∧ okC (joinC a b) ∧ checkI (joinC a b) = 0 ∧ ∀ d, hasB (joinC a b) d = (hasB a d || hasB b d) := by
  obtain ⟨h1, h2⟩ := joinE_zero.1 h
  obtain ⟨ha, hb, -, -⟩ := two_okL h1
  obtain ⟨h3, h4⟩ := join_ok ha hb
  refine ⟨?_, ha, hb, h3, (checkI_iff _).2 ⟨h3, h2⟩, fun d => ?_⟩
  · unfold joinX; rw [if_neg (by simp [h1]), if_neg (by omega)]
  · rw [Bool.eq_iff_iff, h4, Bool.or_eq_true]
theorem joinC_comm {a b : Ctx} (ha : okC a) (hb : okC b) : joinC a b = joinC b a := by
  obtain ⟨h1, h2⟩ := join_ok ha hb
  obtain ⟨h3, h4⟩ := join_ok hb ha
  refine okC_ext h1 h3 fun d => ?_
  rw [Bool.eq_iff_iff, h2, h4]; exact Or.comm
theorem joinE_comm {a b : Ctx} : joinE a b = 0 ↔ joinE b a = 0 := by
  rw [joinE_zero, joinE_zero, twoI_comm]
  constructor <;> rintro ⟨h1, h2⟩
  · obtain ⟨hb, ha, -, -⟩ := two_okL h1
    exact ⟨h1, by rw [joinC_comm hb ha]; exact h2⟩
  · obtain ⟨hb, ha, -, -⟩ := two_okL h1
    exact ⟨h1, by rw [joinC_comm ha hb]; exact h2⟩
theorem checkI_two {a b : Ctx} (ha : checkI a = 0) (hb : checkI b = 0) : twoI a b = 0 := twoI_zero.2 ⟨ha, hb⟩
/-- What the law asks of a join that succeeds. -/
theorem lattice1 {a b : Ctx} (h : joinE a b = 0) : joinX b a = joinX a b ∧ checkI (joinX a b) = 0 ∧ twoI a (joinX a b) = 0 ∧ lessX a (joinX a b) = true ∧ (∀ d, hasB (joinX a b) d = (hasB a d || hasB b d)) ∧ lessX a b = sameB (joinX a b) b := by
  obtain ⟨e, ha, hb, hj, hc, hh⟩ := joinX_ok h
  obtain ⟨h1, h2⟩ := joinE_zero.1 h
  obtain ⟨e', -⟩ := joinX_ok (joinE_comm.1 h)
  obtain ⟨c1, c2⟩ := twoI_zero.1 h1
  have t2 : twoI a (joinC a b) = 0 := checkI_two c1 hc
  rw [e, e']
  refine ⟨joinC_comm hb ha, hc, t2, ?_, hh, ?_⟩
  · unfold lessX
    rw [if_neg (by simp [t2]), less_iff ha hj]
    intro d hd
    rw [hh, hd]; rfl
  · unfold lessX
    rw [if_neg (by simp [h1]), Bool.eq_iff_iff, sameB_iff, less_iff ha hb]
    constructor
    · intro hl
      refine okC_ext hj hb fun d => ?_
      rw [hh, Bool.eq_iff_iff, Bool.or_eq_true]
      exact ⟨fun h => h.elim (hl d) id, .inr⟩
    · intro e3 d hd
      rw [← e3, hh, hd]; rfl
theorem lattice2 {a b c : Ctx} (h : joinE a b = 0) (h1 : joinE (joinX a b) c = 0) (h2 : joinE b c = 0) (h3 : joinE a (joinX b c) = 0) : joinX (joinX a b) c = joinX a (joinX b c) := by
  obtain ⟨e1, ha, hb, hj, -, g1⟩ := joinX_ok h
  obtain ⟨e2, -, hc, hj2, -, g2⟩ := joinX_ok h1
  obtain ⟨e3, -, -, hj3, -, g3⟩ := joinX_ok h2
  obtain ⟨e4, -, -, hj4, -, g4⟩ := joinX_ok h3
  rw [e2, e4]
  refine okC_ext hj2 hj4 fun d => ?_
  rw [g2, g4, e1, e3, g1, g3, Bool.or_assoc]
theorem joinX_le (a b : Ctx) : (joinX a b).cloud.length ≤ 400 := by
  unfold joinX
  split
  · simp
  · split
    · simp
    · omega
theorem make_three : makeC [(0, 1), (0, 2), (1, 3)] = ⟨2, 0, 0, 0, [(1, 3)]⟩ ∧ makeE [(0, 1), (0, 2), (1, 3)] = 0 := by
  have hr : ([(0, 1), (0, 2), (1, 3)] : List (Int × Int)).any (fun d => !rightB d.1 d.2) = false := by decide
  have hr2 : ∀ d ∈ ([(0, 1), (0, 2), (1, 3)] : List (Int × Int)), rightB d.1 d.2 = true := by decide
  constructor
  · unfold makeC
    rw [if_neg (by decide), if_neg (by rw [hr]; simp)]
    obtain ⟨h1, h2⟩ := pack_ok (c0 := 0) (c1 := 0) (c2 := 0) (c3 := 0) (l := [(0, 1), (0, 2), (1, 3)]) (by simp [clkIn]) hr2
    refine okC_ext h1 ⟨by simp [clkIn], ?_, by simp⟩ fun d => ?_
    · intro d hd
      simp only [List.mem_singleton] at hd
      subst hd
      exact ⟨by decide, by decide⟩
    · rw [Bool.eq_iff_iff, h2, hasB_iff, hasB_iff]
      obtain ⟨n, s⟩ := d
      simp only [Ctx.at_, List.mem_cons, Prod.mk.injEq, List.not_mem_nil, or_false]
      constructor
      · rintro (⟨h0, h4, h1, h⟩ | h)
        · split at h <;> omega
        · rcases h with ⟨rfl, rfl⟩ | ⟨rfl, rfl⟩ | ⟨rfl, rfl⟩
          · left; simp
          · left; simp
          · right; exact ⟨rfl, rfl⟩
      · rintro (⟨h0, h4, h1, h⟩ | ⟨rfl, rfl⟩)
        · right
          by_cases e : n = 0
          · rw [if_pos e] at h; omega
          · rw [if_neg e] at h
            split at h <;> (try split at h) <;> omega
        · right; right; right; exact ⟨rfl, rfl⟩
  · unfold makeE
    rw [if_neg (by decide), if_neg (by rw [hr]; simp)]
end Go.Proofs.Ytogegnikpjcpdaa
