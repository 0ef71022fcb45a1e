/- DotT, Ctx, Less, Flat, Miss, RMiss, Minus -/
import Derived.Test.YtldlmkfigjicgaaGreatDoorCk06
import Derived.Test.YtldlmkfigjicgaaGreatDoorCk02
import Derived.Test.YtldlmkfigjicgaaGreatDoorCk01
import Derived.Deep.CutBlock
import Derived.Deep.CutRange
/- viewref.Next, dot.Next. -/
namespace Go.Proofs.YtldlmkfigjicgaaGreatDoor
set_option linter.unusedVariables false
open Go.ChangeShapes Go.WideShapes Go.ChangeAt Go.RowKit

def stepS (i m : Int) (d : Int × Int) : Int := if d.1 = i ∧ m < d.2 then d.2 else m
def maxS (c : Ctx) (i : Int) : Int := c.cloud.foldl (stepS i) (c.at_ i)
def rnextD (c : Ctx) (i : Int) : Int × Int := if 1099511627776 ≤ maxS c i then (0, 0) else (i, maxS c i + 1)
def rnextE (c : Ctx) (i : Int) : Int := if 1099511627776 ≤ maxS c i then 2 else 0
def nextD (c : Ctx) (i : Int) : Int × Int := if checkI c ≠ 0 then (0, 0) else if inB i 0 3 = false then (0, 0) else rnextD c i
def nextE (c : Ctx) (i : Int) : Int := if checkI c ≠ 0 then checkI c else if inB i 0 3 = false then 1 else rnextE c i

/-- A dot and an error. -/
def DotErr (d : Int × Int) (x : Int) (w : World) (e : Ending) (w' : World) : Prop :=
  e = .returned (.tuple #[dval d, .int .i64 x]) ∧ Below w.heap.size w w'

theorem stepS_le (i m : Int) (d : Int × Int) : m ≤ stepS i m d := by unfold stepS; split <;> omega
theorem take_step {α β : Type} (f : β → α → β) (b : β) (l : List α) (k : Nat) (h : k < l.length) : (l.take (k + 1)).foldl f b = f ((l.take k).foldl f b) l[k] := by
  rw [List.take_succ_eq_append_getElem h, List.foldl_append]; rfl

theorem checkI_zero {c : Ctx} (h : checkI c = 0) : clkIn c ∧ c.cloud.length ≤ 400 ∧ ∀ d ∈ c.cloud, rightB d.1 d.2 = true := by
  unfold checkI at h
  split at h
  · cases h
  · rename_i h1
    split at h
    · cases h
    · rename_i h2
      split at h
      · cases h
      · rename_i h3
        simp [clkOk] at h1
        refine ⟨by simp [clkIn]; omega, by omega, fun d hd => ?_⟩
        obtain ⟨j, hj, rfl⟩ := List.getElem_of_mem hd
        have h4 : badAt c j = false := by
          cases hb : badAt c j
          · rfl
          · exact absurd (List.any_eq_true.2 ⟨j, List.mem_range.2 hj, hb⟩) h3
        have hg : c.cloud.getD j (0, 0) = c.cloud[j] := by simp [List.getD, hj]
        unfold badAt at h4
        simp only [hg] at h4
        cases hr : rightB (c.cloud[j]).1 (c.cloud[j]).2
        · rw [hr] at h4; simp at h4
        · rfl

end Go.Proofs.YtldlmkfigjicgaaGreatDoor
/- Contexts: one that is right is known by what it has. Joins, order. No program in sight. -/
namespace Go.Proofs.YtldlmkfigjicgaaGreatDoor
set_option linter.unusedVariables false

def okC (c : Ctx) : Prop := clkIn c ∧ (∀ d ∈ c.cloud, rightB d.1 d.2 = true ∧ c.at_ d.1 + 2 ≤ d.2) ∧ c.cloud.Pairwise (fun a b => before a b = true)

theorem right_iff {d : Int × Int} : rightB d.1 d.2 = true ↔ 0 ≤ d.1 ∧ d.1 < 4 ∧ 1 ≤ d.2 ∧ d.2 ≤ 1099511627776 := by simp [rightB, and_assoc]
theorem before_iff {a b : Int × Int} : before a b = true ↔ a.1 < b.1 ∨ (a.1 = b.1 ∧ a.2 < b.2) := by simp [before]
theorem hasB_iff {c : Ctx} {d : Int × Int} : hasB c d = true ↔ (0 ≤ d.1 ∧ d.1 < 4 ∧ 1 ≤ d.2 ∧ d.2 ≤ c.at_ d.1) ∨ d ∈ c.cloud := by unfold hasB; rw [decide_eq_true_eq]; exact Iff.rfl

theorem pair_of_next {α : Type} {R : α → α → Prop} (ht : ∀ a b c, R a b → R b c → R a c) : ∀ (l : List α), (∀ i (h : i + 1 < l.length), R l[i] l[i + 1]) → l.Pairwise R
  | [], _ => .nil
  | [a], _ => by simp
  | a :: b :: r, h => by
    have ih := pair_of_next ht (b :: r) (fun i hi => h (i + 1) (by simpa using hi))
    have h0 : R a b := by simpa using h 0 (by simp)
    refine List.pairwise_cons.2 ⟨fun x hx => ?_, ih⟩
    rcases List.mem_cons.1 hx with rfl | hx
    · exact h0
    · exact ht _ _ _ h0 ((List.pairwise_cons.1 ih).1 x hx)
theorem before_trans (a b c : Int × Int) (h1 : before a b = true) (h2 : before b c = true) : before a c = true := by
  rw [before_iff] at *; omega

theorem badAt_iff (c : Ctx) (i : Nat) (hi : i < c.cloud.length) : badAt c i = false ↔ rightB (c.cloud[i]).1 (c.cloud[i]).2 = true ∧ (∀ h : 0 < i, before c.cloud[i - 1] c.cloud[i] = true) ∧ c.at_ (c.cloud[i]).1 + 2 ≤ (c.cloud[i]).2 := by
  have e : c.cloud.getD i (0, 0) = c.cloud[i] := by simp [List.getD, hi]
  have e1 : 0 < i → c.cloud.getD (i - 1) (0, 0) = c.cloud[i - 1] := fun _ => by simp [List.getD, show i - 1 < c.cloud.length by omega]
  unfold badAt
  rw [e]
  by_cases h0 : 0 < i
  · rw [e1 h0]
    simp only [h0, decide_true, Bool.true_and, Bool.or_eq_false_iff, Bool.not_eq_false', decide_eq_false_iff_not, and_assoc]
    exact ⟨fun ⟨p, q, r⟩ => ⟨p, fun _ => q, by omega⟩, fun ⟨p, q, r⟩ => ⟨p, q trivial, by omega⟩⟩
  · simp only [h0, decide_false, Bool.false_and, Bool.or_false, Bool.or_eq_false_iff, Bool.not_eq_false', decide_eq_false_iff_not]
    exact ⟨fun ⟨p, r⟩ => ⟨p, fun h => h.elim, by omega⟩, fun ⟨p, q, r⟩ => ⟨p, by omega⟩⟩

theorem checkI_iff (c : Ctx) : checkI c = 0 ↔ okC c ∧ c.cloud.length ≤ 400 := by
  constructor
  · intro h
    obtain ⟨hc, hl, hr⟩ := checkI_zero h
    have hb : ∀ i, i < c.cloud.length → badAt c i = false := by
      intro i hi
      cases hq : badAt c i with
      | false => rfl
      | true =>
        have hclk : (clkOk c.c0 && clkOk c.c1 && clkOk c.c2 && clkOk c.c3) = true := by
          cases hq2 : (clkOk c.c0 && clkOk c.c1 && clkOk c.c2 && clkOk c.c3) with
          | true => rfl
          | false => rw [checkI_arg hq2] at h; cases h
        rw [checkI_form hclk hl hi hq] at h; cases h
    refine ⟨⟨hc, fun d hd => ?_, ?_⟩, hl⟩
    · obtain ⟨i, hi, rfl⟩ := List.getElem_of_mem hd
      have := (badAt_iff c i hi).1 (hb i hi)
      exact ⟨this.1, this.2.2⟩
    · refine pair_of_next before_trans _ fun i hi => ?_
      have := ((badAt_iff c (i + 1) hi).1 (hb (i + 1) hi)).2.1 (by omega)
      simpa using this
  · rintro ⟨⟨hc, hd, hp⟩, hl⟩
    refine checkI_ok ?_ hl fun i hi => (badAt_iff c i hi).2 ⟨(hd _ (List.getElem_mem _)).1, fun h0 => ?_, (hd _ (List.getElem_mem _)).2⟩
    · obtain ⟨⟨a, b⟩, ⟨d, e⟩, ⟨f, g⟩, ⟨p, q⟩⟩ := hc
      simp [clkOk, *]
    · exact (List.pairwise_iff_getElem.1 hp) (i - 1) i (by omega) hi (by omega)

theorem okC_ext {a b : Ctx} (ha : okC a) (hb : okC b) (h : ∀ d, hasB a d = hasB b d) : a = b := by
  have le : ∀ (a b : Ctx), okC a → okC b → (∀ d, hasB a d = hasB b d) → ∀ n, 0 ≤ n → n < 4 → b.at_ n ≤ a.at_ n := by
    intro a b ha hb h n h0 h4
    refine Int.le_of_not_gt fun hlt => ?_
    have h1 := (at_in ha.1 n).1
    have h2 : hasB b (n, a.at_ n + 1) = true := hasB_iff.2 (.inl ⟨h0, h4, by simp only; omega, by simp only; omega⟩)
    rw [← h] at h2
    rcases hasB_iff.1 h2 with h3 | h3
    · simp only at h3; omega
    · have := (ha.2.1 _ h3).2; simp only at this; omega
  have hat : ∀ n, 0 ≤ n → n < 4 → a.at_ n = b.at_ n := fun n h0 h4 => Int.le_antisymm (le b a hb ha (fun d => (h d).symm) n h0 h4) (le a b ha hb h n h0 h4)
  have sub : ∀ (a b : Ctx), okC a → (∀ d, hasB a d = hasB b d) → (∀ n, 0 ≤ n → n < 4 → a.at_ n = b.at_ n) → ∀ d ∈ a.cloud, d ∈ b.cloud := by
    intro a b ha h hat d hd
    obtain ⟨h1, h2⟩ := ha.2.1 d hd
    have hr := right_iff.1 h1
    have h3 : hasB b d = true := by rw [← h]; exact hasB_iff.2 (.inr hd)
    rcases hasB_iff.1 h3 with h4 | h4
    · have := hat d.1 hr.1 hr.2.1; omega
    · exact h4
  have nd : ∀ (a : Ctx), okC a → a.cloud.Nodup := fun a ha => ha.2.2.imp fun {x y} hxy e => by subst e; rw [before_iff] at hxy; omega
  have hp : a.cloud.Perm b.cloud := (List.perm_ext_iff_of_nodup (nd a ha) (nd b hb)).2 fun d => ⟨sub a b ha h hat d, sub b a hb (fun d => (h d).symm) (fun n h0 h4 => (hat n h0 h4).symm) d⟩
  have le2 : ∀ (a : Ctx), okC a → a.cloud.Pairwise (fun a b => dotLe a b = true) := fun a ha => ha.2.2.imp fun {x y} hxy => by
    simp only [dotLe, Bool.not_eq_true']
    cases hq : before y x with
    | false => rfl
    | true => rw [before_iff] at *; omega
  have hcl := sorted_eq hp (le2 a ha) (le2 b hb)
  have e0 := hat 0 (by omega) (by omega)
  have e1 := hat 1 (by omega) (by omega)
  have e2 := hat 2 (by omega) (by omega)
  have e3 := hat 3 (by omega) (by omega)
  simp [Ctx.at_] at e0 e1 e2 e3
  cases a; cases b
  simp_all

theorem at_inc {c : Ctx} {n m : Int} (h0 : 0 ≤ n) (h4 : n < 4) (m0 : 0 ≤ m) (m4 : m < 4) : (c.inc n).at_ m = if m = n then c.at_ n + 1 else c.at_ m := by
  rcases (by omega : n = 0 ∨ n = 1 ∨ n = 2 ∨ n = 3) with h | h | h | h <;> rcases (by omega : m = 0 ∨ m = 1 ∨ m = 2 ∨ m = 3) with g | g | g | g <;> subst h <;> subst g <;> simp [Ctx.inc, Ctx.at_]

theorem refStep_inv {c : Ctx} {d : Int × Int} (hc : okC c) (hd : rightB d.1 d.2 = true) (hx : ∀ x ∈ c.cloud, before x d = true ∨ x = d) :
    okC (refStep c d) ∧ (∀ x, hasB (refStep c d) x = true ↔ hasB c x = true ∨ x = d) ∧ (∀ x ∈ (refStep c d).cloud, x ∈ c.cloud ∨ x = d) := by
  by_cases hh : hasB c d = true
  · rw [refStep_same hh]
    refine ⟨hc, fun x => ⟨.inl, fun h => ?_⟩, fun x hx => .inl hx⟩
    rcases h with h | rfl
    · exact h
    · exact hh
  · have hno : d ∉ c.cloud := fun h => hh (hasB_iff.2 (.inr h))
    have hr := right_iff.1 hd
    have hgt : c.at_ d.1 < d.2 := by
      refine Int.lt_of_not_ge fun h => hh (hasB_iff.2 (.inl ⟨hr.1, hr.2.1, hr.2.2.1, h⟩))
    have hbf : ∀ x ∈ c.cloud, before x d = true := fun x h => by
      rcases hx x h with h1 | h1
      · exact h1
      · subst h1; exact absurd h hno
    have hin := packStep_in hc.1 hd
    have e := ref_pack hd hno
    rw [e]
    by_cases hq : d.2 = c.at_ d.1 + 1
    · have e2 : packStep c d = c.inc d.1 := by unfold packStep; rw [if_neg (by omega), if_pos hq]
      rw [e2] at hin ⊢
      refine ⟨⟨hin, ?_, by rw [inc_cloud]; exact hc.2.2⟩, fun x => ?_, fun x hx => by rw [inc_cloud] at hx; exact .inl hx⟩
      · intro x hx
        rw [inc_cloud] at hx
        obtain ⟨h1, h2⟩ := hc.2.1 x hx
        have hxr := right_iff.1 h1
        refine ⟨h1, ?_⟩
        rw [at_inc hr.1 hr.2.1 hxr.1 hxr.2.1]
        have hb := before_iff.1 (hbf x hx)
        split
        · rename_i e3; rw [e3] at h2; omega
        · exact h2
      · rw [hasB_iff, hasB_iff, inc_cloud]
        constructor
        · rintro (⟨h1, h2, h3, h4⟩ | h)
          · rw [at_inc hr.1 hr.2.1 h1 h2] at h4
            split at h4
            · rename_i e3
              by_cases e4 : x.2 = d.2
              · right; ext <;> omega
              · left; left; exact ⟨h1, h2, h3, by rw [e3]; omega⟩
            · left; left; exact ⟨h1, h2, h3, h4⟩
          · exact .inl (.inr h)
        · rintro ((⟨h1, h2, h3, h4⟩ | h) | rfl)
          · left
            refine ⟨h1, h2, h3, ?_⟩
            rw [at_inc hr.1 hr.2.1 h1 h2]
            split
            · rename_i e3; rw [e3] at h4; omega
            · exact h4
          · exact .inr h
          · left
            refine ⟨hr.1, hr.2.1, hr.2.2.1, ?_⟩
            rw [at_inc hr.1 hr.2.1 hr.1 hr.2.1, if_pos rfl]; omega
    · have e2 : packStep c d = { c with cloud := c.cloud ++ [d] } := by unfold packStep; rw [if_neg (by omega), if_neg hq]
      rw [e2] at hin ⊢
      refine ⟨⟨hin, ?_, ?_⟩, fun x => ?_, fun x hx => by simpa using hx⟩
      · intro x hx
        simp only [List.mem_append, List.mem_singleton] at hx
        rcases hx with hx | rfl
        · exact hc.2.1 x hx
        · exact ⟨hd, by show c.at_ x.1 + 2 ≤ x.2; omega⟩
      · refine List.pairwise_append.2 ⟨hc.2.2, by simp, fun x hx y hy => ?_⟩
        simp only [List.mem_singleton] at hy
        rw [hy]
        exact hbf x hx
      · rw [hasB_iff, hasB_iff]
        simp only [List.mem_append, List.mem_singleton]
        have e3 : ∀ n, Ctx.at_ { c with cloud := c.cloud ++ [d] } n = c.at_ n := fun n => rfl
        simp only [e3, or_assoc]

theorem ref_inv : ∀ (s : List (Int × Int)) (c : Ctx), okC c → s.Pairwise (fun a b => dotLe a b = true) → (∀ d ∈ s, rightB d.1 d.2 = true) → (∀ x ∈ c.cloud, ∀ d ∈ s, before x d = true ∨ x = d) →
    okC (s.foldl refStep c) ∧ ∀ x, hasB (s.foldl refStep c) x = true ↔ hasB c x = true ∨ x ∈ s
  | [], c, hc, _, _, _ => ⟨hc, fun x => by simp⟩
  | d :: s, c, hc, hs, hr, hx => by
    obtain ⟨h1, h2, h3⟩ := refStep_inv hc (hr d (by simp)) (fun x h => hx x h d (by simp))
    have hs' := List.pairwise_cons.1 hs
    obtain ⟨h4, h5⟩ := ref_inv s (refStep c d) h1 hs'.2 (fun y hy => hr y (by simp [hy])) (fun x hx1 y hy => by
      rcases h3 x hx1 with h | rfl
      · exact hx x h y (by simp [hy])
      · have h6 := hs'.1 y hy
        simp only [dotLe, Bool.not_eq_true'] at h6
        by_cases h7 : before x y = true
        · exact .inl h7
        · exact .inr (before_total x y (by simpa using h7) h6))
    refine ⟨h4, fun x => ?_⟩
    rw [List.foldl_cons, h5, h2]
    simp only [List.mem_cons, or_assoc]

theorem pack_ok {c0 c1 c2 c3 : Int} {l : List (Int × Int)} (hc : clkIn ⟨c0, c1, c2, c3, []⟩) (hr : ∀ d ∈ l, rightB d.1 d.2 = true) :
    okC (packL c0 c1 c2 c3 l) ∧ ∀ d, hasB (packL c0 c1 c2 c3 l) d = true ↔ hasB ⟨c0, c1, c2, c3, []⟩ d = true ∨ d ∈ l := by
  rw [← ref_packL c0 c1 c2 c3 l hr]
  obtain ⟨h1, h2⟩ := ref_inv (l.mergeSort dotLe) ⟨c0, c1, c2, c3, []⟩ ⟨hc, by simp, by simp⟩ (sorted_sort l) (fun d hd => hr d (List.mem_mergeSort.1 hd)) (by simp)
  exact ⟨h1, fun d => by rw [h2, List.mem_mergeSort]⟩

theorem pack_length {c0 c1 c2 c3 : Int} {l : List (Int × Int)} : (packL c0 c1 c2 c3 l).cloud.length ≤ l.length := by
  have h : ∀ (s : List (Int × Int)) (c : Ctx), (s.foldl packStep c).cloud.length ≤ c.cloud.length + s.length := by
    intro s
    induction s with
    | nil => simp
    | cons d s ih =>
      intro c
      rw [List.foldl_cons]
      refine Nat.le_trans (ih _) ?_
      have : (packStep c d).cloud.length ≤ c.cloud.length + 1 := by
        unfold packStep
        split
        · omega
        · split
          · rw [inc_cloud]; omega
          · simp
      simp; omega
  have h1 := h (cpt (l.mergeSort dotLe)) ⟨c0, c1, c2, c3, []⟩
  have h2 := cpt_length (l.mergeSort dotLe)
  rw [List.length_mergeSort] at h2
  unfold packL
  simp at h1
  omega

def joinC (a b : Ctx) : Ctx := packL (max a.c0 b.c0) (max a.c1 b.c1) (max a.c2 b.c2) (max a.c3 b.c3) (a.cloud ++ b.cloud)
theorem join_ok {a b : Ctx} (ha : okC a) (hb : okC b) : okC (joinC a b) ∧ ∀ d, hasB (joinC a b) d = true ↔ hasB a d = true ∨ hasB b d = true := by
  have hclk : clkIn ⟨max a.c0 b.c0, max a.c1 b.c1, max a.c2 b.c2, max a.c3 b.c3, []⟩ := by
    have h1 := ha.1
    have h2 := hb.1
    unfold clkIn at *
    simp only
    omega
  obtain ⟨h1, h2⟩ := pack_ok (l := a.cloud ++ b.cloud) hclk (fun d hd => by
    rcases List.mem_append.1 hd with h | h
    · exact (ha.2.1 d h).1
    · exact (hb.2.1 d h).1)
  refine ⟨h1, fun d => ?_⟩
  rw [joinC, h2, hasB_iff, hasB_iff, hasB_iff, List.mem_append]
  have e : ∀ n, 0 ≤ n → n < 4 → Ctx.at_ ⟨max a.c0 b.c0, max a.c1 b.c1, max a.c2 b.c2, max a.c3 b.c3, []⟩ n = max (a.at_ n) (b.at_ n) := by
    intro n h0 h4
    rcases (by omega : n = 0 ∨ n = 1 ∨ n = 2 ∨ n = 3) with h | h | h | h <;> subst h <;> simp [Ctx.at_]
  constructor
  · rintro ((⟨h1, h2, h3, h4⟩ | h) | h | h)
    · rw [e _ h1 h2] at h4
      by_cases h5 : d.2 ≤ a.at_ d.1
      · exact .inl (.inl ⟨h1, h2, h3, h5⟩)
      · exact .inr (.inl ⟨h1, h2, h3, by omega⟩)
    · simp at h
    · exact .inl (.inr h)
    · exact .inr (.inr h)
  · rintro ((⟨h1, h2, h3, h4⟩ | h) | (⟨h1, h2, h3, h4⟩ | h))
    · exact .inl (.inl ⟨h1, h2, h3, by rw [e _ h1 h2]; omega⟩)
    · exact .inr (.inl h)
    · exact .inl (.inl ⟨h1, h2, h3, by rw [e _ h1 h2]; omega⟩)
    · exact .inr (.inr h)

def lessB (a b : Ctx) : Bool := (decide (a.c0 ≤ b.c0) && decide (a.c1 ≤ b.c1) && decide (a.c2 ≤ b.c2) && decide (a.c3 ≤ b.c3)) && a.cloud.all (fun d => hasB b d)
theorem less_iff {a b : Ctx} (ha : okC a) (hb : okC b) : lessB a b = true ↔ ∀ d, hasB a d = true → hasB b d = true := by
  unfold lessB
  simp only [Bool.and_eq_true, decide_eq_true_eq, List.all_eq_true]
  constructor
  · rintro ⟨⟨⟨⟨h0, h1⟩, h2⟩, h3⟩, hc⟩ d hd
    rcases hasB_iff.1 hd with ⟨p0, p4, p1, p2⟩ | h
    · refine hasB_iff.2 (.inl ⟨p0, p4, p1, Int.le_trans p2 ?_⟩)
      generalize d.1 = n at *
      rcases (by omega : n = 0 ∨ n = 1 ∨ n = 2 ∨ n = 3) with h | h | h | h <;> subst h <;> simp [Ctx.at_] <;> assumption
    · exact hc d h
  · intro h
    have hat : ∀ n, 0 ≤ n → n < 4 → a.at_ n ≤ b.at_ n := by
      intro n h0 h4
      refine Int.le_of_not_gt fun hlt => ?_
      have h1 := (at_in hb.1 n).1
      have h2 : hasB a (n, b.at_ n + 1) = true := hasB_iff.2 (.inl ⟨h0, h4, by simp only; omega, by simp only; omega⟩)
      rcases hasB_iff.1 (h _ h2) with h3 | h3
      · simp only at h3; omega
      · have := (hb.2.1 _ h3).2; simp only at this; omega
    have e0 := hat 0 (by omega) (by omega)
    have e1 := hat 1 (by omega) (by omega)
    have e2 := hat 2 (by omega) (by omega)
    have e3 := hat 3 (by omega) (by omega)
    simp [Ctx.at_] at e0 e1 e2 e3
    exact ⟨⟨⟨⟨e0, e1⟩, e2⟩, e3⟩, fun d hd => h d (hasB_iff.2 (.inr hd))⟩
end Go.Proofs.YtldlmkfigjicgaaGreatDoor
/- dot.Less and its predicate. -/
namespace Go.Proofs.YtldlmkfigjicgaaGreatDoor
set_option linter.unusedVariables false
open Go.ChangeShapes Go.WideShapes Go.ChangeAt Go.RowKit

abbrev cbox (c : Ctx) (A : Option Addr) (k : Nat) : Array Value := #[.int .i64 c.c0, .int .i64 c.c1, .int .i64 c.c2, .int .i64 c.c3, .slice A c.cloud.length k]

def lessX (a b : Ctx) : Bool := if twoI a b ≠ 0 then false else lessB a b

theorem not_any (l : List (Int × Int)) (f : Int × Int → Bool) : (!l.any (fun d => !f d)) = l.all f := by
  induction l with
  | nil => rfl
  | cons x l ih => simp only [List.any_cons, List.all_cons, ← ih]; cases f x <;> simp

theorem lessB_no {a b : Ctx} (h : b.c0 < a.c0 ∨ b.c1 < a.c1 ∨ b.c2 < a.c2 ∨ b.c3 < a.c3) : lessB a b = false := by
  unfold lessB
  rw [Bool.eq_false_iff]
  intro h2
  simp only [Bool.and_eq_true, decide_eq_true_eq] at h2
  omega
theorem lessB_yes {a b : Ctx} (h0 : a.c0 ≤ b.c0) (h1 : a.c1 ≤ b.c1) (h2 : a.c2 ≤ b.c2) (h3 : a.c3 ≤ b.c3) : lessB a b = a.cloud.all (fun d => hasB b d) := by
  unfold lessB
  simp [h0, h1, h2, h3]
theorem ret_bi {a b : Bool} {x : Int} (h : a = b) : Ending.returned (.tuple #[.bool a, .int .i64 x]) = .returned (.tuple #[.bool b, .int .i64 x]) := by rw [h]

end Go.Proofs.YtldlmkfigjicgaaGreatDoor
/- Rows of things of more than one cell: contexts in a list, cells of a table. No program in sight. -/
namespace Go.Proofs.YtldlmkfigjicgaaGreatDoor
set_option linter.unusedVariables false
open Go.RowKit

/-- A context, and where its cloud lies. -/
structure CR where
  c : Ctx
  A : Option Addr
  k : Nat
abbrev CR.cells (x : CR) : List Value := [.int .i64 x.c.c0, .int .i64 x.c.c1, .int .i64 x.c.c2, .int .i64 x.c.c3, .slice x.A x.c.cloud.length x.k]
abbrev ccells (L : List CR) : List Value := L.flatMap CR.cells
theorem CR.len (x : CR) : x.cells.length = 5 := rfl
/-- A list of contexts lies at A, their clouds too. -/
def RowC (w : World) (B : Nat) (A : Option Addr) (L : List CR) : Prop := Row w B A (ccells L) ∧ ∀ x ∈ L, Row w B x.A (dcells x.c.cloud) ∧ x.c.cloud.length ≤ 9223372036854775807
theorem RowC.below {w w' : World} {B C : Nat} {A : Option Addr} {L : List CR} (h : RowC w B A L) (hb : Below C w w') (hB : B ≤ C) : RowC w' B A L :=
  ⟨h.1.below hb hB, fun x hx => ⟨(h.2 x hx).1.below hb hB, (h.2 x hx).2⟩⟩
theorem RowC.more {w : World} {B C : Nat} {A : Option Addr} {L : List CR} (h : RowC w B A L) (hB : B ≤ C) : RowC w C A L := ⟨h.1.more hB, fun x hx => ⟨(h.2 x hx).1.more hB, (h.2 x hx).2⟩⟩
theorem RowC.step {w w' : World} {A : Option Addr} {L : List CR} (h : RowC w w.heap.size A L) (hb : Below w.heap.size w w') : RowC w' w'.heap.size A L := (h.below hb (Nat.le_refl _)).more hb.size
theorem RowC.at_ {w : World} {B : Nat} {A : Option Addr} {L : List CR} (h : RowC w B A L) {k : Nat} (hk : k < L.length) :
    ∃ b off, A = some ⟨b, off, none⟩ ∧ b < B ∧ w.cell? ⟨b, off + k * 5, none⟩ = some (.int .i64 L[k].c.c0) ∧ w.cell? ⟨b, off + k * 5 + 1, none⟩ = some (.int .i64 L[k].c.c1) ∧ w.cell? ⟨b, off + k * 5 + 2, none⟩ = some (.int .i64 L[k].c.c2) ∧
      w.cell? ⟨b, off + k * 5 + 3, none⟩ = some (.int .i64 L[k].c.c3) ∧ w.cell? ⟨b, off + k * 5 + 4, none⟩ = some (.slice L[k].A L[k].c.cloud.length L[k].k) ∧ Row w B L[k].A (dcells L[k].c.cloud) ∧ L[k].c.cloud.length ≤ 9223372036854775807 := by
  obtain ⟨b, off, h1, h2, h3⟩ := Row.flat CR.len h.1 (by omega) hk
  exact ⟨b, off, h1, h2, h3 0 _ rfl, h3 1 _ rfl, h3 2 _ rfl, h3 3 _ rfl, h3 4 _ rfl, (h.2 _ (List.getElem_mem _)).1, (h.2 _ (List.getElem_mem _)).2⟩
theorem RowC.clk {w : World} {B b off : Nat} {L : List CR} (h : RowC w B (some ⟨b, off, none⟩) L) {k : Nat} (hk : k < L.length) {n : Nat} (hn : n < 4) : w.cell? ⟨b, off + k * 5 + n, none⟩ = some (.int .i64 (L[k].c.at_ n)) ∧ b < B := by
  obtain ⟨b', off', hA, hb, c0, c1, c2, c3, c4, -, -⟩ := h.at_ hk
  injection hA with hA
  injection hA with h1 h2
  subst h1 h2
  refine ⟨?_, hb⟩
  rcases (by omega : n = 0 ∨ n = 1 ∨ n = 2 ∨ n = 3) with e | e | e | e <;> subst e
  · exact c0
  · exact c1
  · exact c2
  · exact c3
theorem RowC.five {w : World} {B b off : Nat} {L : List CR} (h : RowC w B (some ⟨b, off, none⟩) L) {k : Nat} (hk : k < L.length) :
    b < B ∧ w.cell? ⟨b, off + k * 5, none⟩ = some (.int .i64 L[k].c.c0) ∧ w.cell? ⟨b, off + k * 5 + 1, none⟩ = some (.int .i64 L[k].c.c1) ∧ w.cell? ⟨b, off + k * 5 + 2, none⟩ = some (.int .i64 L[k].c.c2) ∧
      w.cell? ⟨b, off + k * 5 + 3, none⟩ = some (.int .i64 L[k].c.c3) ∧ w.cell? ⟨b, off + k * 5 + 4, none⟩ = some (.slice L[k].A L[k].c.cloud.length L[k].k) := by
  obtain ⟨b', off', hA, hb, c0, c1, c2, c3, c4, -, -⟩ := h.at_ hk
  injection hA with hA
  injection hA with h1 h2
  subst h1 h2
  exact ⟨hb, c0, c1, c2, c3, c4⟩
abbrev CR.ctxs (L : List CR) : List Ctx := L.map CR.c

/-- A cell of a table. -/
structure Cel where
  d : Int × Int
  key : Int
  col : Int
  val : Int
instance : DecidableEq Cel := fun a b => decidable_of_iff (a.d = b.d ∧ a.key = b.key ∧ a.col = b.col ∧ a.val = b.val) (by cases a; cases b; simp)
abbrev Cel.cells (x : Cel) : List Value := [.int .i64 x.d.1, .int .i64 x.d.2, .int .i64 x.key, .int .i64 x.col, .int .i64 x.val]
abbrev tcells (l : List Cel) : List Value := l.flatMap Cel.cells
theorem Cel.len (x : Cel) : x.cells.length = 5 := rfl
theorem tcells_len (l : List Cel) : (tcells l).length = l.length * 5 := flat_len Cel.len l
theorem tcells_one (l : List Cel) : ∀ u ∈ tcells l, u.oneCell' = true := by
  intro u hu
  obtain ⟨x, -, hx⟩ := List.mem_flatMap.1 hu
  simp only [Cel.cells, List.mem_cons, List.not_mem_nil, or_false] at hx
  rcases hx with rfl | rfl | rfl | rfl | rfl <;> rfl
theorem Row.cel {w : World} {B : Nat} {A : Option Addr} {l : List Cel} (h : Row w B A (tcells l)) {k : Nat} (hk : k < l.length) :
    ∃ b off, A = some ⟨b, off, none⟩ ∧ b < B ∧ w.cell? ⟨b, off + k * 5, none⟩ = some (.int .i64 l[k].d.1) ∧ w.cell? ⟨b, off + k * 5 + 1, none⟩ = some (.int .i64 l[k].d.2) ∧ w.cell? ⟨b, off + k * 5 + 2, none⟩ = some (.int .i64 l[k].key) ∧
      w.cell? ⟨b, off + k * 5 + 3, none⟩ = some (.int .i64 l[k].col) ∧ w.cell? ⟨b, off + k * 5 + 4, none⟩ = some (.int .i64 l[k].val) := by
  obtain ⟨b, off, h1, h2, h3⟩ := Row.flat Cel.len h (by omega) hk
  exact ⟨b, off, h1, h2, h3 0 _ rfl, h3 1 _ rfl, h3 2 _ rfl, h3 3 _ rfl, h3 4 _ rfl⟩

structure Tab where
  c : Ctx
  cells : List Cel
/-- A table's value. -/
abbrev tval (t : Tab) (A : Option Addr) (k : Nat) (B : Option Addr) (m : Nat) : Value :=
  .agg #[.int .i64 t.c.c0, .int .i64 t.c.c1, .int .i64 t.c.c2, .int .i64 t.c.c3, .slice A t.c.cloud.length k, .slice B t.cells.length m]
abbrev tbox (t : Tab) (A : Option Addr) (k : Nat) (B : Option Addr) (m : Nat) : Array Value :=
  #[.int .i64 t.c.c0, .int .i64 t.c.c1, .int .i64 t.c.c2, .int .i64 t.c.c3, .slice A t.c.cloud.length k, .slice B t.cells.length m]
end Go.Proofs.YtldlmkfigjicgaaGreatDoor
/- Minus and Missing, and when one context is less than another: plain lists. No program in sight. -/
namespace Go.Proofs.YtldlmkfigjicgaaGreatDoor
set_option linter.unusedVariables false

def clkDots (a b : Ctx) (n : Int) (k : Nat) : List (Int × Int) := ((List.range k).map (fun (j : Nat) => (n, b.at_ n + 1 + (j : Int)))).filter (fun d => !hasB b d)
def clkMiss (a b : Ctx) (n : Int) : List (Int × Int) := clkDots a b n (a.at_ n - b.at_ n).toNat
def cldMiss (a b : Ctx) (n : Int) : List (Int × Int) := a.cloud.filter (fun d => decide (d.1 = n) && !hasB b d)
def cldAll (a b : Ctx) : List (Int × Int) := a.cloud.filter (fun d => !hasB b d)
def clkAll (a b : Ctx) : List (Int × Int) := clkMiss a b 0 ++ clkMiss a b 1 ++ clkMiss a b 2 ++ clkMiss a b 3
def missL (a b : Ctx) : List (Int × Int) := (clkMiss a b 0 ++ cldMiss a b 0) ++ (clkMiss a b 1 ++ cldMiss a b 1) ++ (clkMiss a b 2 ++ cldMiss a b 2) ++ (clkMiss a b 3 ++ cldMiss a b 3)
def missStep (a b : Ctx) (out : List (Int × Int)) (n : Int) : List (Int × Int) := out ++ (clkMiss a b n).take (401 - out.length) ++ cldMiss a b n
def missR (a b : Ctx) : List (Int × Int) := missStep a b (missStep a b (missStep a b (missStep a b [] 0) 1) 2) 3

theorem clkDots_succ (a b : Ctx) (n : Int) (k : Nat) : clkDots a b n (k + 1) = clkDots a b n k ++ (if hasB b (n, b.at_ n + 1 + (k : Int)) = true then [] else [(n, b.at_ n + 1 + (k : Int))]) := by
  unfold clkDots
  rw [List.range_succ, List.map_append, List.filter_append]
  congr 1
  simp only [List.map_cons, List.map_nil, List.filter_cons, List.filter_nil]
  cases hasB b (n, b.at_ n + 1 + (k : Int)) <;> rfl

theorem clkDots_mem {a b : Ctx} {n : Int} {k : Nat} {d : Int × Int} : d ∈ clkDots a b n k ↔ d.1 = n ∧ b.at_ n + 1 ≤ d.2 ∧ d.2 ≤ b.at_ n + k ∧ hasB b d = false := by
  unfold clkDots
  simp only [List.mem_filter, List.mem_map, List.mem_range, Bool.not_eq_true']
  constructor
  · rintro ⟨⟨j, hj, rfl⟩, h⟩
    exact ⟨rfl, by simp only; omega, by simp only; omega, h⟩
  · rintro ⟨h1, h2, h3, h4⟩
    refine ⟨⟨(d.2 - (b.at_ n + 1)).toNat, by omega, ?_⟩, h4⟩
    obtain ⟨d1, d2⟩ := d
    simp only at *
    subst h1
    congr 1
    omega

theorem clkMiss_mem {a b : Ctx} {n : Int} {d : Int × Int} : d ∈ clkMiss a b n ↔ d.1 = n ∧ b.at_ n + 1 ≤ d.2 ∧ d.2 ≤ a.at_ n ∧ hasB b d = false := by
  unfold clkMiss
  rw [clkDots_mem]
  constructor
  · rintro ⟨h1, h2, h3, h4⟩; exact ⟨h1, h2, by omega, h4⟩
  · rintro ⟨h1, h2, h3, h4⟩; exact ⟨h1, h2, by omega, h4⟩

theorem clkDots_sorted (a b : Ctx) (n : Int) : ∀ k, (clkDots a b n k).Pairwise (fun x y => before x y = true)
  | 0 => by simp [clkDots]
  | k + 1 => by
    rw [clkDots_succ]
    refine List.pairwise_append.2 ⟨clkDots_sorted a b n k, by split <;> simp, fun x hx y hy => ?_⟩
    have h1 := clkDots_mem.1 hx
    split at hy
    · simp at hy
    · simp only [List.mem_singleton] at hy
      subst hy
      rw [before_iff]
      simp only
      omega

theorem node_sorted {a b : Ctx} (ha : okC a) (n : Int) : (clkMiss a b n ++ cldMiss a b n).Pairwise (fun x y => before x y = true) := by
  refine List.pairwise_append.2 ⟨clkDots_sorted a b n _, ha.2.2.filter _, fun x hx y hy => ?_⟩
  have h1 := clkMiss_mem.1 hx
  simp only [cldMiss, List.mem_filter, Bool.and_eq_true, decide_eq_true_eq] at hy
  have h2 := (ha.2.1 y hy.1).2
  rw [hy.2.1] at h2
  rw [before_iff]
  omega
theorem node_mem {a b : Ctx} {n : Int} {d : Int × Int} (h : d ∈ clkMiss a b n ++ cldMiss a b n) : d.1 = n := by
  rcases List.mem_append.1 h with h | h
  · exact (clkMiss_mem.1 h).1
  · simp only [cldMiss, List.mem_filter, Bool.and_eq_true, decide_eq_true_eq] at h
    exact h.2.1

theorem missL_sorted {a b : Ctx} (ha : okC a) : (missL a b).Pairwise (fun x y => before x y = true) := by
  unfold missL
  have hs := fun n => node_sorted (b := b) ha n
  have hm := fun n d => node_mem (a := a) (b := b) (n := n) (d := d)
  refine List.pairwise_append.2 ⟨List.pairwise_append.2 ⟨List.pairwise_append.2 ⟨hs 0, hs 1, ?_⟩, hs 2, ?_⟩, hs 3, ?_⟩ <;> intro x hx y hy <;> rw [before_iff] <;> left
  · rw [hm _ _ hx, hm _ _ hy]; omega
  · rw [hm _ _ hy]
    rcases List.mem_append.1 hx with h | h <;> rw [hm _ _ h] <;> omega
  · rw [hm _ _ hy]
    rcases List.mem_append.1 hx with h | h
    · rcases List.mem_append.1 h with h | h <;> rw [hm _ _ h] <;> omega
    · rw [hm _ _ h]; omega

theorem strict_le {l : List (Int × Int)} (h : l.Pairwise (fun x y => before x y = true)) : l.Pairwise (fun x y => dotLe x y = true) := h.imp fun {x y} hxy => by
  simp only [dotLe, Bool.not_eq_true']
  cases hq : before y x with
  | false => rfl
  | true => rw [before_iff] at *; omega

theorem part_perm (f : Int × Int → Bool) : ∀ (l : List (Int × Int)), (∀ d ∈ l, 0 ≤ d.1 ∧ d.1 < 4) → (l.filter f).Perm (l.filter (fun d => decide (d.1 = 0) && f d) ++ l.filter (fun d => decide (d.1 = 1) && f d) ++ l.filter (fun d => decide (d.1 = 2) && f d) ++ l.filter (fun d => decide (d.1 = 3) && f d))
  | [], _ => by simp
  | d :: l, h => by
    have ih := part_perm f l (fun x hx => h x (by simp [hx]))
    have hd := h d (by simp)
    cases hf : f d with
    | false => simpa [List.filter_cons, hf] using ih
    | true =>
      rcases (by omega : d.1 = 0 ∨ d.1 = 1 ∨ d.1 = 2 ∨ d.1 = 3) with e | e | e | e
      all_goals simp only [List.filter_cons, hf, e, Bool.and_true, if_true]
      all_goals try simp only [decide_true]
      all_goals try simp only [decide_false]
      all_goals try simp only [Bool.false_eq_true]
      all_goals try simp only [if_false]
      all_goals try simp only [if_true]
      all_goals simp only [show decide ((0 : Int) = 1) = false from rfl, show decide ((0 : Int) = 2) = false from rfl, show decide ((0 : Int) = 3) = false from rfl, show decide ((1 : Int) = 0) = false from rfl, show decide ((1 : Int) = 2) = false from rfl, show decide ((1 : Int) = 3) = false from rfl, show decide ((2 : Int) = 0) = false from rfl, show decide ((2 : Int) = 1) = false from rfl, show decide ((2 : Int) = 3) = false from rfl, show decide ((3 : Int) = 0) = false from rfl, show decide ((3 : Int) = 1) = false from rfl, show decide ((3 : Int) = 2) = false from rfl, Bool.false_eq_true, if_false]
      · exact ih.cons d
      · refine (ih.cons d).trans ?_
        simp only [List.append_assoc, List.cons_append]
        exact List.perm_middle.symm
      · refine (ih.cons d).trans ?_
        simp only [List.append_assoc, List.cons_append]
        refine List.Perm.trans ?_ (List.Perm.append_left _ List.perm_middle.symm)
        exact List.perm_middle.symm
      · refine (ih.cons d).trans ?_
        exact List.perm_middle.symm

theorem swap4 {α : Type} (a b c d e f g h : List α) : ((a ++ b ++ c ++ d) ++ (e ++ f ++ g ++ h)).Perm ((a ++ e) ++ (b ++ f) ++ (c ++ g) ++ (d ++ h)) := by
  classical
  have : ∀ x y z w : List α, ((x ++ y) ++ (z ++ w)).Perm ((x ++ z) ++ (y ++ w)) := fun x y z w => by
    simp only [List.append_assoc]
    exact (List.perm_append_comm_assoc y z w).append_left x
  refine (this _ _ _ _).trans (List.Perm.append_right _ ?_)
  refine (this _ _ _ _).trans (List.Perm.append_right _ ?_)
  exact this _ _ _ _

theorem all_perm {a b : Ctx} (ha : okC a) : (clkAll a b ++ cldAll a b).Perm (missL a b) := by
  have h := part_perm (fun d => !hasB b d) a.cloud (fun d hd => by have := right_iff.1 (ha.2.1 d hd).1; exact ⟨this.1, this.2.1⟩)
  exact (h.append_left (clkAll a b)).trans (swap4 _ _ _ _ _ _ _ _)

theorem minus_eq {a b : Ctx} (ha : okC a) : (clkAll a b ++ cldAll a b).mergeSort dotLe = missL a b :=
  sorted_eq ((List.mergeSort_perm _ _).trans (all_perm ha)) (sorted_sort _) (strict_le (missL_sorted ha))

theorem step_eq (a b : Ctx) (out : List (Int × Int)) (n : Int) (h : (out ++ (clkMiss a b n ++ cldMiss a b n)).length ≤ 400) : missStep a b out n = out ++ (clkMiss a b n ++ cldMiss a b n) := by
  unfold missStep
  simp only [List.length_append] at h
  rw [List.take_of_length_le (by omega), List.append_assoc]
theorem step_le (a b : Ctx) (out : List (Int × Int)) (n : Int) : out.length ≤ (missStep a b out n).length := by unfold missStep; simp only [List.length_append]; omega
theorem step_big (a b : Ctx) (out : List (Int × Int)) (n : Int) (h : 400 < (out ++ (clkMiss a b n ++ cldMiss a b n)).length) : 400 < (missStep a b out n).length := by
  unfold missStep
  simp only [List.length_append, List.length_take] at *
  omega

theorem missR_eq (a b : Ctx) (h : (missL a b).length ≤ 400) : missR a b = missL a b := by
  unfold missL at *
  unfold missR
  simp only [List.length_append] at h
  have e0 := step_eq a b [] 0 (by simp only [List.length_append, List.nil_append]; omega)
  simp only [List.nil_append] at e0
  rw [e0, step_eq _ _ _ 1 (by simp only [List.length_append]; omega), step_eq _ _ _ 2 (by simp only [List.length_append]; omega), step_eq _ _ _ 3 (by simp only [List.length_append]; omega)]

theorem missR_big (a b : Ctx) (h : 400 < (missL a b).length) : 400 < (missR a b).length := by
  unfold missR
  have l1 := step_le a b (missStep a b [] 0) 1
  have l2 := step_le a b (missStep a b (missStep a b [] 0) 1) 2
  have l3 := step_le a b (missStep a b (missStep a b (missStep a b [] 0) 1) 2) 3
  have s : ∀ out n, 400 < (missStep a b out n).length ∨ (missStep a b out n = out ++ (clkMiss a b n ++ cldMiss a b n)) := fun out n => by
    by_cases h0 : 400 < (out ++ (clkMiss a b n ++ cldMiss a b n)).length
    · exact .inl (step_big a b out n h0)
    · exact .inr (step_eq a b out n (by omega))
  rcases s [] 0 with h0 | e0
  · omega
  rcases s (missStep a b [] 0) 1 with h1 | e1
  · omega
  rcases s (missStep a b (missStep a b [] 0) 1) 2 with h2 | e2
  · omega
  rcases s (missStep a b (missStep a b (missStep a b [] 0) 1) 2) 3 with h3 | e3
  · omega
  rw [e3, e2, e1, e0]
  exact h

theorem missL_mem {a b : Ctx} {d : Int × Int} (hd : 0 ≤ d.1 ∧ d.1 < 4 ∧ 1 ≤ d.2) (hb : clkIn b) : d ∈ missL a b ↔ hasB a d = true ∧ hasB b d = false := by
  have one : ∀ n, d ∈ clkMiss a b n ++ cldMiss a b n ↔ d.1 = n ∧ hasB b d = false ∧ ((b.at_ n + 1 ≤ d.2 ∧ d.2 ≤ a.at_ n) ∨ d ∈ a.cloud) := by
    intro n
    rw [List.mem_append, clkMiss_mem]
    simp only [cldMiss, List.mem_filter, Bool.and_eq_true, decide_eq_true_eq, Bool.not_eq_true']
    constructor
    · rintro (⟨h1, h2, h3, h4⟩ | ⟨h1, h2, h3⟩)
      · exact ⟨h1, h4, .inl ⟨h2, h3⟩⟩
      · exact ⟨h2, h3, .inr h1⟩
    · rintro ⟨h1, h2, (⟨h3, h4⟩ | h3)⟩
      · exact .inl ⟨h1, h3, h4, h2⟩
      · exact .inr ⟨h3, h1, h2⟩
  have key : ∀ n, d.1 = n → ((b.at_ n + 1 ≤ d.2 ∧ d.2 ≤ a.at_ n) ∨ d ∈ a.cloud) → hasB b d = false → hasB a d = true := by
    intro n e h _
    rw [hasB_iff]
    rcases h with ⟨h1, h2⟩ | h
    · exact .inl ⟨hd.1, hd.2.1, hd.2.2, by rw [e]; exact h2⟩
    · exact .inr h
  have key2 : hasB a d = true → hasB b d = false → ((b.at_ d.1 + 1 ≤ d.2 ∧ d.2 ≤ a.at_ d.1) ∨ d ∈ a.cloud) := by
    intro h h2
    rcases hasB_iff.1 h with ⟨_, _, _, h3⟩ | h3
    · refine .inl ⟨?_, h3⟩
      refine Int.le_of_not_gt fun hlt => ?_
      have : hasB b d = true := hasB_iff.2 (.inl ⟨hd.1, hd.2.1, hd.2.2, by omega⟩)
      rw [this] at h2; cases h2
    · exact .inr h3
  unfold missL
  rw [List.mem_append, List.mem_append, List.mem_append, one, one, one, one]
  constructor
  · rintro (((⟨h1, h2, h3⟩ | ⟨h1, h2, h3⟩) | ⟨h1, h2, h3⟩) | ⟨h1, h2, h3⟩) <;> exact ⟨key _ h1 h3 h2, h2⟩
  · rintro ⟨h1, h2⟩
    have h3 := key2 h1 h2
    rcases (by omega : d.1 = 0 ∨ d.1 = 1 ∨ d.1 = 2 ∨ d.1 = 3) with e | e | e | e <;> rw [e] at h3
    · exact .inl (.inl (.inl ⟨e, h2, h3⟩))
    · exact .inl (.inl (.inr ⟨e, h2, h3⟩))
    · exact .inl (.inr ⟨e, h2, h3⟩)
    · exact .inr ⟨e, h2, h3⟩

theorem missL_right {a b : Ctx} (ha : okC a) (hb : clkIn b) {d : Int × Int} (h : d ∈ missL a b) : rightB d.1 d.2 = true := by
  have one : ∀ n, 0 ≤ n → n < 4 → d ∈ clkMiss a b n ++ cldMiss a b n → rightB d.1 d.2 = true := by
    intro n h0 h4 h
    rcases List.mem_append.1 h with h | h
    · have h1 := clkMiss_mem.1 h
      have h2 := at_in ha.1 n
      have h3 := at_in hb n
      rw [right_iff]; omega
    · simp only [cldMiss, List.mem_filter] at h
      exact (ha.2.1 d h.1).1
  unfold missL at h
  rcases List.mem_append.1 h with h | h
  · rcases List.mem_append.1 h with h | h
    · rcases List.mem_append.1 h with h | h
      · exact one 0 (by omega) (by omega) h
      · exact one 1 (by omega) (by omega) h
    · exact one 2 (by omega) (by omega) h
  · exact one 3 (by omega) (by omega) h

theorem less_miss {a b : Ctx} (ha : okC a) (hb : okC b) : lessB a b = decide (missL a b = []) := by
  rw [Bool.eq_iff_iff, less_iff ha hb, decide_eq_true_eq]
  constructor
  · intro h
    refine List.eq_nil_iff_forall_not_mem.2 fun d hd => ?_
    have hr := right_iff.1 (missL_right ha hb.1 hd)
    have h2 := (missL_mem ⟨hr.1, hr.2.1, hr.2.2.1⟩ hb.1).1 hd
    rw [h d h2.1] at h2
    cases h2.2
  · intro h d hd
    cases hq : hasB b d with
    | true => rfl
    | false =>
      have hr : 0 ≤ d.1 ∧ d.1 < 4 ∧ 1 ≤ d.2 := by
        rcases hasB_iff.1 hd with h1 | h1
        · exact ⟨h1.1, h1.2.1, h1.2.2.1⟩
        · have := right_iff.1 (ha.2.1 d h1).1; exact ⟨this.1, this.2.1, this.2.2.1⟩
      have := (missL_mem hr hb.1).2 ⟨hd, hq⟩
      rw [h] at this; cases this
end Go.Proofs.YtldlmkfigjicgaaGreatDoor
/- viewref.Missing. -/
namespace Go.Proofs.YtldlmkfigjicgaaGreatDoor
set_option linter.unusedVariables false
open Go.ChangeShapes Go.WideShapes Go.ChangeAt Go.RowKit

def DotsPost (l : List (Int × Int)) (w : World) (e : Ending) (w' : World) : Prop :=
  ∃ v, e = .returned v ∧ w'.ownsRow w.heap.size 78 2 v l.length (dcells l) ∧ Below w.heap.size w w'

def missUp (a b : Ctx) : Nat → List (Int × Int)
  | 0 => []
  | i + 1 => missStep a b (missUp a b i) i
theorem missUp_R (a b : Ctx) : missUp a b 4 = missR a b := rfl
theorem missUp_le (a b : Ctx) (h : a.cloud.length ≤ 400) : ∀ i, (missUp a b i).length ≤ 401 + 400 * i
  | 0 => by simp [missUp]
  | i + 1 => by
    have ih := missUp_le a b h i
    have h1 : (cldMiss a b i).length ≤ a.cloud.length := List.length_filter_le _ _
    simp only [missUp, missStep, List.length_append, List.length_take]
    omega

theorem cap_snoc {α : Type} (O C : List α) (d : α) (h : (O ++ C.take (401 - O.length)).length ≤ 400) : O ++ (C ++ [d]).take (401 - O.length) = (O ++ C.take (401 - O.length)) ++ [d] := by
  simp only [List.length_append, List.length_take] at h
  rw [List.take_of_length_le (by simp; omega), List.take_of_length_le (by omega), List.append_assoc]
theorem cap_full {α : Type} (O C D : List α) (h : 400 < (O ++ C.take (401 - O.length)).length) : O ++ (C ++ D).take (401 - O.length) = O ++ C.take (401 - O.length) := by
  simp only [List.length_append, List.length_take] at h
  rw [List.take_append_of_le_length (by omega)]
theorem clkDots_prefix (a b : Ctx) (n : Int) (j : Nat) : ∀ K, j ≤ K → ∃ D, clkDots a b n K = clkDots a b n j ++ D
  | 0, h => ⟨[], by rw [show j = 0 by omega]; simp⟩
  | K + 1, h => by
    by_cases e : j = K + 1
    · exact ⟨[], by rw [e]; simp⟩
    · obtain ⟨D, hD⟩ := clkDots_prefix a b n j K (by omega)
      exact ⟨D ++ _, by rw [clkDots_succ, hD, List.append_assoc]⟩
theorem grown_below {B : Nat} {w0 w1 w2 : World} {n : Nat} {T : TypeId} {v : Value} {xs : List Value} (h : Below B w0 w1) (hg : w1.grownBy w2 v.ownBlock) (ho : w1.ownsRow B T 2 v n xs) (hB : B ≤ w1.heap.size) : Below B w0 w2 :=
  h.grown hg hB (fun g e => (ho.lt g e).1)

end Go.Proofs.YtldlmkfigjicgaaGreatDoor
/- dot.Minus. -/
namespace Go.Proofs.YtldlmkfigjicgaaGreatDoor
set_option linter.unusedVariables false
open Go.ChangeShapes Go.WideShapes Go.ChangeAt Go.RowKit

def DotsErr (l : List (Int × Int)) (x : Int) (w : World) (e : Ending) (w' : World) : Prop :=
  ∃ v, e = .returned (.tuple #[v, .int .i64 x]) ∧ w'.ownsRow w.heap.size 78 2 v l.length (dcells l) ∧ Below w.heap.size w w'

theorem ret_vi {v : Value} {x y : Int} (h : x = y) : Ending.returned (.tuple #[v, .int .i64 x]) = .returned (.tuple #[v, .int .i64 y]) := by rw [h]

def minusX (a b : Ctx) : List (Int × Int) := if twoI a b ≠ 0 then [] else if 400 < (clkAll a b ++ cldAll a b).length then [] else (clkAll a b ++ cldAll a b).mergeSort dotLe
def minusE (a b : Ctx) : Int := if twoI a b ≠ 0 then twoI a b else if 400 < (clkAll a b ++ cldAll a b).length then 2 else 0

def clkUp (a b : Ctx) : Nat → List (Int × Int)
  | 0 => []
  | i + 1 => clkUp a b i ++ clkMiss a b i
theorem clkUp_all (a b : Ctx) : clkUp a b 4 = clkAll a b := rfl
theorem clkUp_le (a b : Ctx) {i j : Nat} (h : i ≤ j) : (clkUp a b i).length ≤ (clkUp a b j).length := by
  induction j with
  | zero => rw [show i = 0 by omega]; exact Nat.le_refl _
  | succ j ih =>
    by_cases e : i = j + 1
    · rw [e]; exact Nat.le_refl _
    · have := ih (by omega)
      simp only [clkUp, List.length_append]
      omega

theorem clk_at (c : Ctx) (i : Nat) (h : i < 4) (w : World) : (Instr.index 23 (clkv c.c0 c.c1 c.c2 c.c3) (.int .i64 (i : Int))).run Tryz.prog w = .ok (.int .i64 (c.at_ i)) w := by
  rcases (by omega : i = 0 ∨ i = 1 ∨ i = 2 ∨ i = 3) with e | e | e | e <;> subst e
  · exact clk0 _ _ _ _ w
  · exact clk1 _ _ _ _ w
  · exact clk2 _ _ _ _ w
  · exact clk3 _ _ _ _ w

end Go.Proofs.YtldlmkfigjicgaaGreatDoor
