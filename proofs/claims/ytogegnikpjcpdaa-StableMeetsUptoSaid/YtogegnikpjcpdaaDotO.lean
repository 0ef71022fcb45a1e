/- dot.packed: what it computes, step by step (no program in sight but for the words), and its walk. -/
import Derived.Test.YtogegnikpjcpdaaDotN
import Derived.Deep.AppendLies
namespace Go.Proofs.Ytogegnikpjcpdaa
set_option linter.unusedVariables false
open Go.ChangeShapes Go.WideShapes Go.ChangeAt Go.RowKit

def Ctx.inc (c : Ctx) (n : Int) : Ctx :=
  if n = 0 then { c with c0 := c.c0 + 1 } else if n = 1 then { c with c1 := c.c1 + 1 } else if n = 2 then { c with c2 := c.c2 + 1 } else { c with c3 := c.c3 + 1 }
def packStep (c : Ctx) (d : Int × Int) : Ctx :=
  if d.2 ≤ c.at_ d.1 then c else if d.2 = c.at_ d.1 + 1 then c.inc d.1 else { c with cloud := c.cloud ++ [d] }
def packL (c0 c1 c2 c3 : Int) (l : List (Int × Int)) : Ctx := (cpt (l.mergeSort dotLe)).foldl packStep ⟨c0, c1, c2, c3, []⟩

def clkIn (c : Ctx) : Prop := (0 ≤ c.c0 ∧ c.c0 ≤ 1099511627776) ∧ (0 ≤ c.c1 ∧ c.c1 ≤ 1099511627776) ∧ (0 ≤ c.c2 ∧ c.c2 ≤ 1099511627776) ∧ (0 ≤ c.c3 ∧ c.c3 ≤ 1099511627776)
theorem at_in {c : Ctx} (h : clkIn c) (n : Int) : 0 ≤ c.at_ n ∧ c.at_ n ≤ 1099511627776 := by
  obtain ⟨h0, h1, h2, h3⟩ := h
  unfold Ctx.at_
  split <;> (try split) <;> (try split) <;> omega
theorem packStep_in {c : Ctx} {d : Int × Int} (h : clkIn c) (hd : rightB d.1 d.2 = true) : clkIn (packStep c d) := by
  have hR : 0 ≤ d.1 ∧ d.1 < 4 ∧ 1 ≤ d.2 ∧ d.2 ≤ 1099511627776 := by simpa [rightB, and_assoc] using hd
  have ha := at_in h d.1
  unfold packStep
  split
  · exact h
  · split
    · obtain ⟨h0, h1, h2, h3⟩ := h
      rename_i q1 q2
      unfold Ctx.inc
      unfold Ctx.at_ at q2
      split
      · rename_i e; rw [if_pos e] at q2; exact ⟨by dsimp only; omega, h1, h2, h3⟩
      · rename_i e; rw [if_neg e] at q2
        split
        · rename_i e; rw [if_pos e] at q2; exact ⟨h0, by dsimp only; omega, h2, h3⟩
        · rename_i e; rw [if_neg e] at q2
          split
          · rename_i e; rw [if_pos e] at q2; exact ⟨h0, h1, by dsimp only; omega, h3⟩
          · rename_i e; rw [if_neg e] at q2; exact ⟨h0, h1, h2, by dsimp only; omega⟩
    · exact h

theorem cpt_mem : ∀ (l : List (Int × Int)) (d : Int × Int), d ∈ cpt l ↔ d ∈ l
  | [], d => by simp [cpt]
  | [a], d => by simp [cpt]
  | a :: b :: r, d => by
    have ih := cpt_mem (b :: r) d
    rw [cpt]
    split
    · rename_i h; subst h; rw [ih]; simp
    · simp only [List.mem_cons] at ih ⊢; rw [ih]

theorem cpt_length (l : List (Int × Int)) : (cpt l).length ≤ l.length := by
  induction l with
  | nil => simp [cpt]
  | cons a r ih =>
    cases r with
    | nil => simp [cpt]
    | cons b r => rw [cpt]; split <;> simp at ih ⊢ <;> omega

/-- The cells of a context's block, behind one more at a node's clock. -/
theorem inc_cells (c : Ctx) (n : Int) (h0 : 0 ≤ n) (h4 : n < 4) (v : Value) :
    (#[.int .i64 c.c0, .int .i64 c.c1, .int .i64 c.c2, .int .i64 c.c3, v] : Array Value).setIfInBounds n.toNat (.int .i64 (c.at_ n + 1)) = #[.int .i64 (c.inc n).c0, .int .i64 (c.inc n).c1, .int .i64 (c.inc n).c2, .int .i64 (c.inc n).c3, v] := by
  rcases (by omega : n = 0 ∨ n = 1 ∨ n = 2 ∨ n = 3) with h | h | h | h <;> subst h <;> rfl
theorem inc_cloud (c : Ctx) (n : Int) : (c.inc n).cloud = c.cloud := by
  unfold Ctx.inc
  split <;> (try split) <;> (try split) <;> rfl
theorem at_cell (c : Ctx) (n : Int) (h0 : 0 ≤ n) (h4 : n < 4) (v : Value) : (#[.int .i64 c.c0, .int .i64 c.c1, .int .i64 c.c2, .int .i64 c.c3, v] : Array Value)[n.toNat]? = some (.int .i64 (c.at_ n)) := by
  rcases (by omega : n = 0 ∨ n = 1 ∨ n = 2 ∨ n = 3) with h | h | h | h <;> subst h <;> rfl
end Go.Proofs.Ytogegnikpjcpdaa
