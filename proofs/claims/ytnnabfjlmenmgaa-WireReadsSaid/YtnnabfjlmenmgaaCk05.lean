/- Ctx, Less, Flat, Miss, RMiss, Minus, Join, Joined, TabC -/
import Derived.Test.YtnnabfjlmenmgaaCk04
import Derived.Test.YtnnabfjlmenmgaaCk02
import Derived.Test.YtnnabfjlmenmgaaCk01
import Derived.Deep.CutBlock
import Derived.Deep.CutRange
/- Contexts: one that is right is known by what it has. Joins, order. No program in sight. -/
namespace Go.Proofs.Ytnnabfjlmenmgaa
set_option linter.unusedVariables false

def okC (c : Ctx) : Prop := clkIn c ∧ (∀ d ∈ c.cloud, rightB d.1 d.2 = true ∧ c.at_ d.1 + 2 ≤ d.2) ∧ c.cloud.Pairwise (fun a b => before a b = true)

theorem right_iff {d : Int × Int} : rightB d.1 d.2 = true ↔ 0 ≤ d.1 ∧ d.1 < 4 ∧ 1 ≤ d.2 ∧ d.2 ≤ 1099511627776 := by simp [rightB, and_assoc]
theorem before_iff {a b : Int × Int} : before a b = true ↔ a.1 < b.1 ∨ (a.1 = b.1 ∧ a.2 < b.2) := by simp [before]
theorem hasB_iff {c : Ctx} {d : Int × Int} : hasB c d = true ↔ (0 ≤ d.1 ∧ d.1 < 4 ∧ 1 ≤ d.2 ∧ d.2 ≤ c.at_ d.1) ∨ d ∈ c.cloud := by unfold hasB; rw [decide_eq_true_eq]; exact Iff.rfl

theorem pair_of_next {α : Type} {R : α → α → Prop} (ht : ∀ a b c, R a b → R b c → R a c) : ∀ (l : List α), (∀ i (h : i + 1 < l.length), R l[i] l[i + 1]) → l.Pairwise R
  | [], _ => .nil
  | [a], _ => by simp
  | a :: b :: r, h => by
    have ih := pair_of_next ht (b :: r) (fun i hi => h (i + 1) (by simpa using hi))
    have h0 : R a b := by simpa using h 0 (by simp)
    refine List.pairwise_cons.2 ⟨fun x hx => ?_, ih⟩
    rcases List.mem_cons.1 hx with rfl | hx
    · exact h0
    · exact ht _ _ _ h0 ((List.pairwise_cons.1 ih).1 x hx)
theorem before_trans (a b c : Int × Int) (h1 : before a b = true) (h2 : before b c = true) : before a c = true := by
  rw [before_iff] at *; omega

theorem badAt_iff (c : Ctx) (i : Nat) (hi : i < c.cloud.length) : badAt c i = false ↔ rightB (c.cloud[i]).1 (c.cloud[i]).2 = true ∧ (∀ h : 0 < i, before c.cloud[i - 1] c.cloud[i] = true) ∧ c.at_ (c.cloud[i]).1 + 2 ≤ (c.cloud[i]).2 := by
  have e : c.cloud.getD i (0, 0) = c.cloud[i] := by simp [List.getD, hi]
  have e1 : 0 < i → c.cloud.getD (i - 1) (0, 0) = c.cloud[i - 1] := fun _ => by simp [List.getD, show i - 1 < c.cloud.length by omega]
  unfold badAt
  rw [e]
  by_cases h0 : 0 < i
  · rw [e1 h0]
    simp only [h0, decide_true, Bool.true_and, Bool.or_eq_false_iff, Bool.not_eq_false', decide_eq_false_iff_not, and_assoc]
    exact ⟨fun ⟨p, q, r⟩ => ⟨p, fun _ => q, by omega⟩, fun ⟨p, q, r⟩ => ⟨p, q trivial, by omega⟩⟩
  · simp only [h0, decide_false, Bool.false_and, Bool.or_false, Bool.or_eq_false_iff, Bool.not_eq_false', decide_eq_false_iff_not]
    exact ⟨fun ⟨p, r⟩ => ⟨p, fun h => h.elim, by omega⟩, fun ⟨p, q, r⟩ => ⟨p, by omega⟩⟩

theorem checkI_iff (c : Ctx) : checkI c = 0 ↔ okC c ∧ c.cloud.length ≤ 400 := by
  constructor
  · intro h
    obtain ⟨hc, hl, hr⟩ := checkI_zero h
    have hb : ∀ i, i < c.cloud.length → badAt c i = false := by
      intro i hi
      cases hq : badAt c i with
      | false => rfl
      | true =>
        have hclk : (clkOk c.c0 && clkOk c.c1 && clkOk c.c2 && clkOk c.c3) = true := by
          cases hq2 : (clkOk c.c0 && clkOk c.c1 && clkOk c.c2 && clkOk c.c3) with
          | true => rfl
          | false => rw [checkI_arg hq2] at h; cases h
        rw [checkI_form hclk hl hi hq] at h; cases h
    refine ⟨⟨hc, fun d hd => ?_, ?_⟩, hl⟩
    · obtain ⟨i, hi, rfl⟩ := List.getElem_of_mem hd
      have := (badAt_iff c i hi).1 (hb i hi)
      exact ⟨this.1, this.2.2⟩
    · refine pair_of_next before_trans _ fun i hi => ?_
      have := ((badAt_iff c (i + 1) hi).1 (hb (i + 1) hi)).2.1 (by omega)
      simpa using this
  · rintro ⟨⟨hc, hd, hp⟩, hl⟩
    refine checkI_ok ?_ hl fun i hi => (badAt_iff c i hi).2 ⟨(hd _ (List.getElem_mem _)).1, fun h0 => ?_, (hd _ (List.getElem_mem _)).2⟩
    · obtain ⟨⟨a, b⟩, ⟨d, e⟩, ⟨f, g⟩, ⟨p, q⟩⟩ := hc
      simp [clkOk, *]
    · exact (List.pairwise_iff_getElem.1 hp) (i - 1) i (by omega) hi (by omega)

theorem okC_ext {a b : Ctx} (ha : okC a) (hb : okC b) (h : ∀ d, hasB a d = hasB b d) : a = b := by
  have le : ∀ (a b : Ctx), okC a → okC b → (∀ d, hasB a d = hasB b d) → ∀ n, 0 ≤ n → n < 4 → b.at_ n ≤ a.at_ n := by
    intro a b ha hb h n h0 h4
    refine Int.le_of_not_gt fun hlt => ?_
    have h1 := (at_in ha.1 n).1
    have h2 : hasB b (n, a.at_ n + 1) = true := hasB_iff.2 (.inl ⟨h0, h4, by simp only; omega, by simp only; omega⟩)
    rw [← h] at h2
    rcases hasB_iff.1 h2 with h3 | h3
    · simp only at h3; omega
    · have := (ha.2.1 _ h3).2; simp only at this; omega
  have hat : ∀ n, 0 ≤ n → n < 4 → a.at_ n = b.at_ n := fun n h0 h4 => Int.le_antisymm (le b a hb ha (fun d => (h d).symm) n h0 h4) (le a b ha hb h n h0 h4)
  have sub : ∀ (a b : Ctx), okC a → (∀ d, hasB a d = hasB b d) → (∀ n, 0 ≤ n → n < 4 → a.at_ n = b.at_ n) → ∀ d ∈ a.cloud, d ∈ b.cloud := by
    intro a b ha h hat d hd
    obtain ⟨h1, h2⟩ := ha.2.1 d hd
    have hr := right_iff.1 h1
    have h3 : hasB b d = true := by rw [← h]; exact hasB_iff.2 (.inr hd)
    rcases hasB_iff.1 h3 with h4 | h4
    · have := hat d.1 hr.1 hr.2.1; omega
    · exact h4
  have nd : ∀ (a : Ctx), okC a → a.cloud.Nodup := fun a ha => ha.2.2.imp fun {x y} hxy e => by subst e; rw [before_iff] at hxy; omega
  have hp : a.cloud.Perm b.cloud := (List.perm_ext_iff_of_nodup (nd a ha) (nd b hb)).2 fun d => ⟨sub a b ha h hat d, sub b a hb (fun d => (h d).symm) (fun n h0 h4 => (hat n h0 h4).symm) d⟩
  have le2 : ∀ (a : Ctx), okC a → a.cloud.Pairwise (fun a b => dotLe a b = true) := fun a ha => ha.2.2.imp fun {x y} hxy => by
    simp only [dotLe, Bool.not_eq_true']
    cases hq : before y x with
    | false => rfl
    | true => rw [before_iff] at *; omega
  have hcl := sorted_eq hp (le2 a ha) (le2 b hb)
  have e0 := hat 0 (by omega) (by omega)
  have e1 := hat 1 (by omega) (by omega)
  have e2 := hat 2 (by omega) (by omega)
  have e3 := hat 3 (by omega) (by omega)
  simp [Ctx.at_] at e0 e1 e2 e3
  cases a; cases b
  simp_all

theorem at_inc {c : Ctx} {n m : Int} (h0 : 0 ≤ n) (h4 : n < 4) (m0 : 0 ≤ m) (m4 : m < 4) : (c.inc n).at_ m = if m = n then c.at_ n + 1 else c.at_ m := by
  rcases (by omega : n = 0 ∨ n = 1 ∨ n = 2 ∨ n = 3) with h | h | h | h <;> rcases (by omega : m = 0 ∨ m = 1 ∨ m = 2 ∨ m = 3) with g | g | g | g <;> subst h <;> subst g <;> simp [Ctx.inc, Ctx.at_]

theorem refStep_inv {c : Ctx} {d : Int × Int} (hc : okC c) (hd : rightB d.1 d.2 = true) (hx : ∀ x ∈ c.cloud, before x d = true ∨ x = d) :
    okC (refStep c d) ∧ (∀ x, hasB (refStep c d) x = true ↔ hasB c x = true ∨ x = d) ∧ (∀ x ∈ (refStep c d).cloud, x ∈ c.cloud ∨ x = d) := by
  by_cases hh : hasB c d = true
  · rw [refStep_same hh]
    refine ⟨hc, fun x => ⟨.inl, fun h => ?_⟩, fun x hx => .inl hx⟩
    rcases h with h | rfl
    · exact h
    · exact hh
  · have hno : d ∉ c.cloud := fun h => hh (hasB_iff.2 (.inr h))
    have hr := right_iff.1 hd
    have hgt : c.at_ d.1 < d.2 := by
      refine Int.lt_of_not_ge fun h => hh (hasB_iff.2 (.inl ⟨hr.1, hr.2.1, hr.2.2.1, h⟩))
    have hbf : ∀ x ∈ c.cloud, before x d = true := fun x h => by
      rcases hx x h with h1 | h1
      · exact h1
      · subst h1; exact absurd h hno
    have hin := packStep_in hc.1 hd
    have e := ref_pack hd hno
    rw [e]
    by_cases hq : d.2 = c.at_ d.1 + 1
    · have e2 : packStep c d = c.inc d.1 := by unfold packStep; rw [if_neg (by omega), if_pos hq]
      rw [e2] at hin ⊢
      refine ⟨⟨hin, ?_, by rw [inc_cloud]; exact hc.2.2⟩, fun x => ?_, fun x hx => by rw [inc_cloud] at hx; exact .inl hx⟩
      · intro x hx
        rw [inc_cloud] at hx
        obtain ⟨h1, h2⟩ := hc.2.1 x hx
        have hxr := right_iff.1 h1
        refine ⟨h1, ?_⟩
        rw [at_inc hr.1 hr.2.1 hxr.1 hxr.2.1]
        have hb := before_iff.1 (hbf x hx)
        split
        · rename_i e3; rw [e3] at h2; omega
        · exact h2
      · rw [hasB_iff, hasB_iff, inc_cloud]
        constructor
        · rintro (⟨h1, h2, h3, h4⟩ | h)
          · rw [at_inc hr.1 hr.2.1 h1 h2] at h4
            split at h4
            · rename_i e3
              by_cases e4 : x.2 = d.2
              · right; ext <;> omega
              · left; left; exact ⟨h1, h2, h3, by rw [e3]; omega⟩
            · left; left; exact ⟨h1, h2, h3, h4⟩
          · exact .inl (.inr h)
        · rintro ((⟨h1, h2, h3, h4⟩ | h) | rfl)
          · left
            refine ⟨h1, h2, h3, ?_⟩
            rw [at_inc hr.1 hr.2.1 h1 h2]
            split
            · rename_i e3; rw [e3] at h4; omega
            · exact h4
          · exact .inr h
          · left
            refine ⟨hr.1, hr.2.1, hr.2.2.1, ?_⟩
            rw [at_inc hr.1 hr.2.1 hr.1 hr.2.1, if_pos rfl]; omega
    · have e2 : packStep c d = { c with cloud := c.cloud ++ [d] } := by unfold packStep; rw [if_neg (by omega), if_neg hq]
      rw [e2] at hin ⊢
      refine ⟨⟨hin, ?_, ?_⟩, fun x => ?_, fun x hx => by simpa using hx⟩
      · intro x hx
        simp only [List.mem_append, List.mem_singleton] at hx
        rcases hx with hx | rfl
        · exact hc.2.1 x hx
        · exact ⟨hd, by show c.at_ x.1 + 2 ≤ x.2; omega⟩
      · refine List.pairwise_append.2 ⟨hc.2.2, by simp, fun x hx y hy => ?_⟩
        simp only [List.mem_singleton] at hy
        rw [hy]
        exact hbf x hx
      · rw [hasB_iff, hasB_iff]
        simp only [List.mem_append, List.mem_singleton]
        have e3 : ∀ n, Ctx.at_ { c with cloud := c.cloud ++ [d] } n = c.at_ n := fun n => rfl
        simp only [e3, or_assoc]

theorem ref_inv : ∀ (s : List (Int × Int)) (c : Ctx), okC c → s.Pairwise (fun a b => dotLe a b = true) → (∀ d ∈ s, rightB d.1 d.2 = true) → (∀ x ∈ c.cloud, ∀ d ∈ s, before x d = true ∨ x = d) →
    okC (s.foldl refStep c) ∧ ∀ x, hasB (s.foldl refStep c) x = true ↔ hasB c x = true ∨ x ∈ s
  | [], c, hc, _, _, _ => ⟨hc, fun x => by simp⟩
  | d :: s, c, hc, hs, hr, hx => by
    obtain ⟨h1, h2, h3⟩ := refStep_inv hc (hr d (by simp)) (fun x h => hx x h d (by simp))
    have hs' := List.pairwise_cons.1 hs
    obtain ⟨h4, h5⟩ := ref_inv s (refStep c d) h1 hs'.2 (fun y hy => hr y (by simp [hy])) (fun x hx1 y hy => by
      rcases h3 x hx1 with h | rfl
      · exact hx x h y (by simp [hy])
      · have h6 := hs'.1 y hy
        simp only [dotLe, Bool.not_eq_true'] at h6
        by_cases h7 : before x y = true
        · exact .inl h7
        · exact .inr (before_total x y (by simpa using h7) h6))
    refine ⟨h4, fun x => ?_⟩
    rw [List.foldl_cons, h5, h2]
    simp only [List.mem_cons, or_assoc]

theorem pack_ok {c0 c1 c2 c3 : Int} {l : List (Int × Int)} (hc : clkIn ⟨c0, c1, c2, c3, []⟩) (hr : ∀ d ∈ l, rightB d.1 d.2 = true) :
    okC (packL c0 c1 c2 c3 l) ∧ ∀ d, hasB (packL c0 c1 c2 c3 l) d = true ↔ hasB ⟨c0, c1, c2, c3, []⟩ d = true ∨ d ∈ l := by
  rw [← ref_packL c0 c1 c2 c3 l hr]
  obtain ⟨h1, h2⟩ := ref_inv (l.mergeSort dotLe) ⟨c0, c1, c2, c3, []⟩ ⟨hc, by simp, by simp⟩ (sorted_sort l) (fun d hd => hr d (List.mem_mergeSort.1 hd)) (by simp)
  exact ⟨h1, fun d => by rw [h2, List.mem_mergeSort]⟩

theorem pack_length {c0 c1 c2 c3 : Int} {l : List (Int × Int)} : (packL c0 c1 c2 c3 l).cloud.length ≤ l.length := by
  have h : ∀ (s : List (Int × Int)) (c : Ctx), (s.foldl packStep c).cloud.length ≤ c.cloud.length + s.length := by
    intro s
    induction s with
    | nil => simp
    | cons d s ih =>
      intro c
      rw [List.foldl_cons]
      refine Nat.le_trans (ih _) ?_
      have : (packStep c d).cloud.length ≤ c.cloud.length + 1 := by
        unfold packStep
        split
        · omega
        · split
          · rw [inc_cloud]; omega
          · simp
      simp; omega
  have h1 := h (cpt (l.mergeSort dotLe)) ⟨c0, c1, c2, c3, []⟩
  have h2 := cpt_length (l.mergeSort dotLe)
  rw [List.length_mergeSort] at h2
  unfold packL
  simp at h1
  omega

def joinC (a b : Ctx) : Ctx := packL (max a.c0 b.c0) (max a.c1 b.c1) (max a.c2 b.c2) (max a.c3 b.c3) (a.cloud ++ b.cloud)
theorem join_ok {a b : Ctx} (ha : okC a) (hb : okC b) : okC (joinC a b) ∧ ∀ d, hasB (joinC a b) d = true ↔ hasB a d = true ∨ hasB b d = true := by
  have hclk : clkIn ⟨max a.c0 b.c0, max a.c1 b.c1, max a.c2 b.c2, max a.c3 b.c3, []⟩ := by
    have h1 := ha.1
    have h2 := hb.1
    unfold clkIn at *
    simp only
    omega
  obtain ⟨h1, h2⟩ := pack_ok (l := a.cloud ++ b.cloud) hclk (fun d hd => by
    rcases List.mem_append.1 hd with h | h
    · exact (ha.2.1 d h).1
    · exact (hb.2.1 d h).1)
  refine ⟨h1, fun d => ?_⟩
  rw [joinC, h2, hasB_iff, hasB_iff, hasB_iff, List.mem_append]
  have e : ∀ n, 0 ≤ n → n < 4 → Ctx.at_ ⟨max a.c0 b.c0, max a.c1 b.c1, max a.c2 b.c2, max a.c3 b.c3, []⟩ n = max (a.at_ n) (b.at_ n) := by
    intro n h0 h4
    rcases (by omega : n = 0 ∨ n = 1 ∨ n = 2 ∨ n = 3) with h | h | h | h <;> subst h <;> simp [Ctx.at_]
  constructor
  · rintro ((⟨h1, h2, h3, h4⟩ | h) | h | h)
    · rw [e _ h1 h2] at h4
      by_cases h5 : d.2 ≤ a.at_ d.1
      · exact .inl (.inl ⟨h1, h2, h3, h5⟩)
      · exact .inr (.inl ⟨h1, h2, h3, by omega⟩)
    · simp at h
    · exact .inl (.inr h)
    · exact .inr (.inr h)
  · rintro ((⟨h1, h2, h3, h4⟩ | h) | (⟨h1, h2, h3, h4⟩ | h))
    · exact .inl (.inl ⟨h1, h2, h3, by rw [e _ h1 h2]; omega⟩)
    · exact .inr (.inl h)
    · exact .inl (.inl ⟨h1, h2, h3, by rw [e _ h1 h2]; omega⟩)
    · exact .inr (.inr h)

def lessB (a b : Ctx) : Bool := (decide (a.c0 ≤ b.c0) && decide (a.c1 ≤ b.c1) && decide (a.c2 ≤ b.c2) && decide (a.c3 ≤ b.c3)) && a.cloud.all (fun d => hasB b d)
theorem less_iff {a b : Ctx} (ha : okC a) (hb : okC b) : lessB a b = true ↔ ∀ d, hasB a d = true → hasB b d = true := by
  unfold lessB
  simp only [Bool.and_eq_true, decide_eq_true_eq, List.all_eq_true]
  constructor
  · rintro ⟨⟨⟨⟨h0, h1⟩, h2⟩, h3⟩, hc⟩ d hd
    rcases hasB_iff.1 hd with ⟨p0, p4, p1, p2⟩ | h
    · refine hasB_iff.2 (.inl ⟨p0, p4, p1, Int.le_trans p2 ?_⟩)
      generalize d.1 = n at *
      rcases (by omega : n = 0 ∨ n = 1 ∨ n = 2 ∨ n = 3) with h | h | h | h <;> subst h <;> simp [Ctx.at_] <;> assumption
    · exact hc d h
  · intro h
    have hat : ∀ n, 0 ≤ n → n < 4 → a.at_ n ≤ b.at_ n := by
      intro n h0 h4
      refine Int.le_of_not_gt fun hlt => ?_
      have h1 := (at_in hb.1 n).1
      have h2 : hasB a (n, b.at_ n + 1) = true := hasB_iff.2 (.inl ⟨h0, h4, by simp only; omega, by simp only; omega⟩)
      rcases hasB_iff.1 (h _ h2) with h3 | h3
      · simp only at h3; omega
      · have := (hb.2.1 _ h3).2; simp only at this; omega
    have e0 := hat 0 (by omega) (by omega)
    have e1 := hat 1 (by omega) (by omega)
    have e2 := hat 2 (by omega) (by omega)
    have e3 := hat 3 (by omega) (by omega)
    simp [Ctx.at_] at e0 e1 e2 e3
    exact ⟨⟨⟨⟨e0, e1⟩, e2⟩, e3⟩, fun d hd => h d (hasB_iff.2 (.inr hd))⟩
end Go.Proofs.Ytnnabfjlmenmgaa
/- dot.Less and its predicate. -/
namespace Go.Proofs.Ytnnabfjlmenmgaa
set_option linter.unusedVariables false
open Go.ChangeShapes Go.WideShapes Go.ChangeAt Go.RowKit

abbrev cbox (c : Ctx) (A : Option Addr) (k : Nat) : Array Value := #[.int .i64 c.c0, .int .i64 c.c1, .int .i64 c.c2, .int .i64 c.c3, .slice A c.cloud.length k]

def lessX (a b : Ctx) : Bool := if twoI a b ≠ 0 then false else lessB a b

theorem not_any (l : List (Int × Int)) (f : Int × Int → Bool) : (!l.any (fun d => !f d)) = l.all f := by
  induction l with
  | nil => rfl
  | cons x l ih => simp only [List.any_cons, List.all_cons, ← ih]; cases f x <;> simp

theorem lessB_no {a b : Ctx} (h : b.c0 < a.c0 ∨ b.c1 < a.c1 ∨ b.c2 < a.c2 ∨ b.c3 < a.c3) : lessB a b = false := by
  unfold lessB
  rw [Bool.eq_false_iff]
  intro h2
  simp only [Bool.and_eq_true, decide_eq_true_eq] at h2
  omega
theorem lessB_yes {a b : Ctx} (h0 : a.c0 ≤ b.c0) (h1 : a.c1 ≤ b.c1) (h2 : a.c2 ≤ b.c2) (h3 : a.c3 ≤ b.c3) : lessB a b = a.cloud.all (fun d => hasB b d) := by
  unfold lessB
  simp [h0, h1, h2, h3]
theorem ret_bi {a b : Bool} {x : Int} (h : a = b) : Ending.returned (.tuple #[.bool a, .int .i64 x]) = .returned (.tuple #[.bool b, .int .i64 x]) := by rw [h]

end Go.Proofs.Ytnnabfjlmenmgaa
/- Rows of things of more than one cell: contexts in a list, cells of a table. No program in sight. -/
namespace Go.Proofs.Ytnnabfjlmenmgaa
set_option linter.unusedVariables false
open Go.RowKit

/-- A context, and where its cloud lies. -/
structure CR where
  c : Ctx
  A : Option Addr
  k : Nat
abbrev CR.cells (x : CR) : List Value := [.int .i64 x.c.c0, .int .i64 x.c.c1, .int .i64 x.c.c2, .int .i64 x.c.c3, .slice x.A x.c.cloud.length x.k]
abbrev ccells (L : List CR) : List Value := L.flatMap CR.cells
theorem CR.len (x : CR) : x.cells.length = 5 := rfl
/-- A list of contexts lies at A, their clouds too. -/
def RowC (w : World) (B : Nat) (A : Option Addr) (L : List CR) : Prop := Row w B A (ccells L) ∧ ∀ x ∈ L, Row w B x.A (dcells x.c.cloud) ∧ x.c.cloud.length ≤ 9223372036854775807
theorem RowC.below {w w' : World} {B C : Nat} {A : Option Addr} {L : List CR} (h : RowC w B A L) (hb : Below C w w') (hB : B ≤ C) : RowC w' B A L :=
  ⟨h.1.below hb hB, fun x hx => ⟨(h.2 x hx).1.below hb hB, (h.2 x hx).2⟩⟩
theorem RowC.more {w : World} {B C : Nat} {A : Option Addr} {L : List CR} (h : RowC w B A L) (hB : B ≤ C) : RowC w C A L := ⟨h.1.more hB, fun x hx => ⟨(h.2 x hx).1.more hB, (h.2 x hx).2⟩⟩
theorem RowC.step {w w' : World} {A : Option Addr} {L : List CR} (h : RowC w w.heap.size A L) (hb : Below w.heap.size w w') : RowC w' w'.heap.size A L := (h.below hb (Nat.le_refl _)).more hb.size
theorem RowC.at_ {w : World} {B : Nat} {A : Option Addr} {L : List CR} (h : RowC w B A L) {k : Nat} (hk : k < L.length) :
    ∃ b off, A = some ⟨b, off, none⟩ ∧ b < B ∧ w.cell? ⟨b, off + k * 5, none⟩ = some (.int .i64 L[k].c.c0) ∧ w.cell? ⟨b, off + k * 5 + 1, none⟩ = some (.int .i64 L[k].c.c1) ∧ w.cell? ⟨b, off + k * 5 + 2, none⟩ = some (.int .i64 L[k].c.c2) ∧
      w.cell? ⟨b, off + k * 5 + 3, none⟩ = some (.int .i64 L[k].c.c3) ∧ w.cell? ⟨b, off + k * 5 + 4, none⟩ = some (.slice L[k].A L[k].c.cloud.length L[k].k) ∧ Row w B L[k].A (dcells L[k].c.cloud) ∧ L[k].c.cloud.length ≤ 9223372036854775807 := by
  obtain ⟨b, off, h1, h2, h3⟩ := Row.flat CR.len h.1 (by omega) hk
  exact ⟨b, off, h1, h2, h3 0 _ rfl, h3 1 _ rfl, h3 2 _ rfl, h3 3 _ rfl, h3 4 _ rfl, (h.2 _ (List.getElem_mem _)).1, (h.2 _ (List.getElem_mem _)).2⟩
theorem RowC.clk {w : World} {B b off : Nat} {L : List CR} (h : RowC w B (some ⟨b, off, none⟩) L) {k : Nat} (hk : k < L.length) {n : Nat} (hn : n < 4) : w.cell? ⟨b, off + k * 5 + n, none⟩ = some (.int .i64 (L[k].c.at_ n)) ∧ b < B := by
  obtain ⟨b', off', hA, hb, c0, c1, c2, c3, c4, -, -⟩ := h.at_ hk
  injection hA with hA
  injection hA with h1 h2
  subst h1 h2
  refine ⟨?_, hb⟩
  rcases (by omega : n = 0 ∨ n = 1 ∨ n = 2 ∨ n = 3) with e | e | e | e <;> subst e
  · exact c0
  · exact c1
  · exact c2
  · exact c3
theorem RowC.five {w : World} {B b off : Nat} {L : List CR} (h : RowC w B (some ⟨b, off, none⟩) L) {k : Nat} (hk : k < L.length) :
    b < B ∧ w.cell? ⟨b, off + k * 5, none⟩ = some (.int .i64 L[k].c.c0) ∧ w.cell? ⟨b, off + k * 5 + 1, none⟩ = some (.int .i64 L[k].c.c1) ∧ w.cell? ⟨b, off + k * 5 + 2, none⟩ = some (.int .i64 L[k].c.c2) ∧
      w.cell? ⟨b, off + k * 5 + 3, none⟩ = some (.int .i64 L[k].c.c3) ∧ w.cell? ⟨b, off + k * 5 + 4, none⟩ = some (.slice L[k].A L[k].c.cloud.length L[k].k) := by
  obtain ⟨b', off', hA, hb, c0, c1, c2, c3, c4, -, -⟩ := h.at_ hk
  injection hA with hA
  injection hA with h1 h2
  subst h1 h2
  exact ⟨hb, c0, c1, c2, c3, c4⟩
abbrev CR.ctxs (L : List CR) : List Ctx := L.map CR.c

/-- A cell of a table. -/
structure Cel where
  d : Int × Int
  key : Int
  col : Int
  val : Int
instance : DecidableEq Cel := fun a b => decidable_of_iff (a.d = b.d ∧ a.key = b.key ∧ a.col = b.col ∧ a.val = b.val) (by cases a; cases b; simp)
abbrev Cel.cells (x : Cel) : List Value := [.int .i64 x.d.1, .int .i64 x.d.2, .int .i64 x.key, .int .i64 x.col, .int .i64 x.val]
abbrev tcells (l : List Cel) : List Value := l.flatMap Cel.cells
theorem Cel.len (x : Cel) : x.cells.length = 5 := rfl
theorem tcells_len (l : List Cel) : (tcells l).length = l.length * 5 := flat_len Cel.len l
theorem tcells_one (l : List Cel) : ∀ u ∈ tcells l, u.oneCell' = true := by
  intro u hu
  obtain ⟨x, -, hx⟩ := List.mem_flatMap.1 hu
  simp only [Cel.cells, List.mem_cons, List.not_mem_nil, or_false] at hx
  rcases hx with rfl | rfl | rfl | rfl | rfl <;> rfl
theorem Row.cel {w : World} {B : Nat} {A : Option Addr} {l : List Cel} (h : Row w B A (tcells l)) {k : Nat} (hk : k < l.length) :
    ∃ b off, A = some ⟨b, off, none⟩ ∧ b < B ∧ w.cell? ⟨b, off + k * 5, none⟩ = some (.int .i64 l[k].d.1) ∧ w.cell? ⟨b, off + k * 5 + 1, none⟩ = some (.int .i64 l[k].d.2) ∧ w.cell? ⟨b, off + k * 5 + 2, none⟩ = some (.int .i64 l[k].key) ∧
      w.cell? ⟨b, off + k * 5 + 3, none⟩ = some (.int .i64 l[k].col) ∧ w.cell? ⟨b, off + k * 5 + 4, none⟩ = some (.int .i64 l[k].val) := by
  obtain ⟨b, off, h1, h2, h3⟩ := Row.flat Cel.len h (by omega) hk
  exact ⟨b, off, h1, h2, h3 0 _ rfl, h3 1 _ rfl, h3 2 _ rfl, h3 3 _ rfl, h3 4 _ rfl⟩

structure Tab where
  c : Ctx
  cells : List Cel
/-- A table's value. -/
abbrev tval (t : Tab) (A : Option Addr) (k : Nat) (B : Option Addr) (m : Nat) : Value :=
  .agg #[.int .i64 t.c.c0, .int .i64 t.c.c1, .int .i64 t.c.c2, .int .i64 t.c.c3, .slice A t.c.cloud.length k, .slice B t.cells.length m]
abbrev tbox (t : Tab) (A : Option Addr) (k : Nat) (B : Option Addr) (m : Nat) : Array Value :=
  #[.int .i64 t.c.c0, .int .i64 t.c.c1, .int .i64 t.c.c2, .int .i64 t.c.c3, .slice A t.c.cloud.length k, .slice B t.cells.length m]
end Go.Proofs.Ytnnabfjlmenmgaa
/- Minus and Missing, and when one context is less than another: plain lists. No program in sight. -/
namespace Go.Proofs.Ytnnabfjlmenmgaa
set_option linter.unusedVariables false

def clkDots (a b : Ctx) (n : Int) (k : Nat) : List (Int × Int) := ((List.range k).map (fun (j : Nat) => (n, b.at_ n + 1 + (j : Int)))).filter (fun d => !hasB b d)
def clkMiss (a b : Ctx) (n : Int) : List (Int × Int) := clkDots a b n (a.at_ n - b.at_ n).toNat
def cldMiss (a b : Ctx) (n : Int) : List (Int × Int) := a.cloud.filter (fun d => decide (d.1 = n) && !hasB b d)
def cldAll (a b : Ctx) : List (Int × Int) := a.cloud.filter (fun d => !hasB b d)
def clkAll (a b : Ctx) : List (Int × Int) := clkMiss a b 0 ++ clkMiss a b 1 ++ clkMiss a b 2 ++ clkMiss a b 3
def missL (a b : Ctx) : List (Int × Int) := (clkMiss a b 0 ++ cldMiss a b 0) ++ (clkMiss a b 1 ++ cldMiss a b 1) ++ (clkMiss a b 2 ++ cldMiss a b 2) ++ (clkMiss a b 3 ++ cldMiss a b 3)
def missStep (a b : Ctx) (out : List (Int × Int)) (n : Int) : List (Int × Int) := out ++ (clkMiss a b n).take (401 - out.length) ++ cldMiss a b n
def missR (a b : Ctx) : List (Int × Int) := missStep a b (missStep a b (missStep a b (missStep a b [] 0) 1) 2) 3

theorem clkDots_succ (a b : Ctx) (n : Int) (k : Nat) : clkDots a b n (k + 1) = clkDots a b n k ++ (if hasB b (n, b.at_ n + 1 + (k : Int)) = true then [] else [(n, b.at_ n + 1 + (k : Int))]) := by
  unfold clkDots
  rw [List.range_succ, List.map_append, List.filter_append]
  congr 1
  simp only [List.map_cons, List.map_nil, List.filter_cons, List.filter_nil]
  cases hasB b (n, b.at_ n + 1 + (k : Int)) <;> rfl

theorem clkDots_mem {a b : Ctx} {n : Int} {k : Nat} {d : Int × Int} : d ∈ clkDots a b n k ↔ d.1 = n ∧ b.at_ n + 1 ≤ d.2 ∧ d.2 ≤ b.at_ n + k ∧ hasB b d = false := by
  unfold clkDots
  simp only [List.mem_filter, List.mem_map, List.mem_range, Bool.not_eq_true']
  constructor
  · rintro ⟨⟨j, hj, rfl⟩, h⟩
    exact ⟨rfl, by simp only; omega, by simp only; omega, h⟩
  · rintro ⟨h1, h2, h3, h4⟩
    refine ⟨⟨(d.2 - (b.at_ n + 1)).toNat, by omega, ?_⟩, h4⟩
    obtain ⟨d1, d2⟩ := d
    simp only at *
    subst h1
    congr 1
    omega

theorem clkMiss_mem {a b : Ctx} {n : Int} {d : Int × Int} : d ∈ clkMiss a b n ↔ d.1 = n ∧ b.at_ n + 1 ≤ d.2 ∧ d.2 ≤ a.at_ n ∧ hasB b d = false := by
  unfold clkMiss
  rw [clkDots_mem]
  constructor
  · rintro ⟨h1, h2, h3, h4⟩; exact ⟨h1, h2, by omega, h4⟩
  · rintro ⟨h1, h2, h3, h4⟩; exact ⟨h1, h2, by omega, h4⟩

theorem clkDots_sorted (a b : Ctx) (n : Int) : ∀ k, (clkDots a b n k).Pairwise (fun x y => before x y = true)
  | 0 => by simp [clkDots]
  | k + 1 => by
    rw [clkDots_succ]
    refine List.pairwise_append.2 ⟨clkDots_sorted a b n k, by split <;> simp, fun x hx y hy => ?_⟩
    have h1 := clkDots_mem.1 hx
    split at hy
    · simp at hy
    · simp only [List.mem_singleton] at hy
      subst hy
      rw [before_iff]
      simp only
      omega

theorem node_sorted {a b : Ctx} (ha : okC a) (n : Int) : (clkMiss a b n ++ cldMiss a b n).Pairwise (fun x y => before x y = true) := by
  refine List.pairwise_append.2 ⟨clkDots_sorted a b n _, ha.2.2.filter _, fun x hx y hy => ?_⟩
  have h1 := clkMiss_mem.1 hx
  simp only [cldMiss, List.mem_filter, Bool.and_eq_true, decide_eq_true_eq] at hy
  have h2 := (ha.2.1 y hy.1).2
  rw [hy.2.1] at h2
  rw [before_iff]
  omega
theorem node_mem {a b : Ctx} {n : Int} {d : Int × Int} (h : d ∈ clkMiss a b n ++ cldMiss a b n) : d.1 = n := by
  rcases List.mem_append.1 h with h | h
  · exact (clkMiss_mem.1 h).1
  · simp only [cldMiss, List.mem_filter, Bool.and_eq_true, decide_eq_true_eq] at h
    exact h.2.1

theorem missL_sorted {a b : Ctx} (ha : okC a) : (missL a b).Pairwise (fun x y => before x y = true) := by
  unfold missL
  have hs := fun n => node_sorted (b := b) ha n
  have hm := fun n d => node_mem (a := a) (b := b) (n := n) (d := d)
  refine List.pairwise_append.2 ⟨List.pairwise_append.2 ⟨List.pairwise_append.2 ⟨hs 0, hs 1, ?_⟩, hs 2, ?_⟩, hs 3, ?_⟩ <;> intro x hx y hy <;> rw [before_iff] <;> left
  · rw [hm _ _ hx, hm _ _ hy]; omega
  · rw [hm _ _ hy]
    rcases List.mem_append.1 hx with h | h <;> rw [hm _ _ h] <;> omega
  · rw [hm _ _ hy]
    rcases List.mem_append.1 hx with h | h
    · rcases List.mem_append.1 h with h | h <;> rw [hm _ _ h] <;> omega
    · rw [hm _ _ h]; omega

theorem strict_le {l : List (Int × Int)} (h : l.Pairwise (fun x y => before x y = true)) : l.Pairwise (fun x y => dotLe x y = true) := h.imp fun {x y} hxy => by
  simp only [dotLe, Bool.not_eq_true']
  cases hq : before y x with
  | false => rfl
  | true => rw [before_iff] at *; omega

theorem part_perm (f : Int × Int → Bool) : ∀ (l : List (Int × Int)), (∀ d ∈ l, 0 ≤ d.1 ∧ d.1 < 4) → (l.filter f).Perm (l.filter (fun d => decide (d.1 = 0) && f d) ++ l.filter (fun d => decide (d.1 = 1) && f d) ++ l.filter (fun d => decide (d.1 = 2) && f d) ++ l.filter (fun d => decide (d.1 = 3) && f d))
  | [], _ => by simp
  | d :: l, h => by
    have ih := part_perm f l (fun x hx => h x (by simp [hx]))
    have hd := h d (by simp)
    cases hf : f d with
    | false => simpa [List.filter_cons, hf] using ih
    | true =>
      rcases (by omega : d.1 = 0 ∨ d.1 = 1 ∨ d.1 = 2 ∨ d.1 = 3) with e | e | e | e
      all_goals simp only [List.filter_cons, hf, e, Bool.and_true, if_true]
      all_goals try simp only [decide_true]
      all_goals try simp only [decide_false]
      all_goals try simp only [Bool.false_eq_true]
      all_goals try simp only [if_false]
      all_goals try simp only [if_true]
      all_goals simp only [show decide ((0 : Int) = 1) = false from rfl, show decide ((0 : Int) = 2) = false from rfl, show decide ((0 : Int) = 3) = false from rfl, show decide ((1 : Int) = 0) = false from rfl, show decide ((1 : Int) = 2) = false from rfl, show decide ((1 : Int) = 3) = false from rfl, show decide ((2 : Int) = 0) = false from rfl, show decide ((2 : Int) = 1) = false from rfl, show decide ((2 : Int) = 3) = false from rfl, show decide ((3 : Int) = 0) = false from rfl, show decide ((3 : Int) = 1) = false from rfl, show decide ((3 : Int) = 2) = false from rfl, Bool.false_eq_true, if_false]
      · exact ih.cons d
      · refine (ih.cons d).trans ?_
        simp only [List.append_assoc, List.cons_append]
        exact List.perm_middle.symm
      · refine (ih.cons d).trans ?_
        simp only [List.append_assoc, List.cons_append]
        refine List.Perm.trans ?_ (List.Perm.append_left _ List.perm_middle.symm)
        exact List.perm_middle.symm
      · refine (ih.cons d).trans ?_
        exact List.perm_middle.symm

theorem swap4 {α : Type} (a b c d e f g h : List α) : ((a ++ b ++ c ++ d) ++ (e ++ f ++ g ++ h)).Perm ((a ++ e) ++ (b ++ f) ++ (c ++ g) ++ (d ++ h)) := by
  classical
  have : ∀ x y z w : List α, ((x ++ y) ++ (z ++ w)).Perm ((x ++ z) ++ (y ++ w)) := fun x y z w => by
    simp only [List.append_assoc]
    exact (List.perm_append_comm_assoc y z w).append_left x
  refine (this _ _ _ _).trans (List.Perm.append_right _ ?_)
  refine (this _ _ _ _).trans (List.Perm.append_right _ ?_)
  exact this _ _ _ _

theorem all_perm {a b : Ctx} (ha : okC a) : (clkAll a b ++ cldAll a b).Perm (missL a b) := by
  have h := part_perm (fun d => !hasB b d) a.cloud (fun d hd => by have := right_iff.1 (ha.2.1 d hd).1; exact ⟨this.1, this.2.1⟩)
  exact (h.append_left (clkAll a b)).trans (swap4 _ _ _ _ _ _ _ _)

theorem minus_eq {a b : Ctx} (ha : okC a) : (clkAll a b ++ cldAll a b).mergeSort dotLe = missL a b :=
  sorted_eq ((List.mergeSort_perm _ _).trans (all_perm ha)) (sorted_sort _) (strict_le (missL_sorted ha))

theorem step_eq (a b : Ctx) (out : List (Int × Int)) (n : Int) (h : (out ++ (clkMiss a b n ++ cldMiss a b n)).length ≤ 400) : missStep a b out n = out ++ (clkMiss a b n ++ cldMiss a b n) := by
  unfold missStep
  simp only [List.length_append] at h
  rw [List.take_of_length_le (by omega), List.append_assoc]
theorem step_le (a b : Ctx) (out : List (Int × Int)) (n : Int) : out.length ≤ (missStep a b out n).length := by unfold missStep; simp only [List.length_append]; omega
theorem step_big (a b : Ctx) (out : List (Int × Int)) (n : Int) (h : 400 < (out ++ (clkMiss a b n ++ cldMiss a b n)).length) : 400 < (missStep a b out n).length := by
  unfold missStep
  simp only [List.length_append, List.length_take] at *
  omega

theorem missR_eq (a b : Ctx) (h : (missL a b).length ≤ 400) : missR a b = missL a b := by
  unfold missL at *
  unfold missR
  simp only [List.length_append] at h
  have e0 := step_eq a b [] 0 (by simp only [List.length_append, List.nil_append]; omega)
  simp only [List.nil_append] at e0
  rw [e0, step_eq _ _ _ 1 (by simp only [List.length_append]; omega), step_eq _ _ _ 2 (by simp only [List.length_append]; omega), step_eq _ _ _ 3 (by simp only [List.length_append]; omega)]

theorem missR_big (a b : Ctx) (h : 400 < (missL a b).length) : 400 < (missR a b).length := by
  unfold missR
  have l1 := step_le a b (missStep a b [] 0) 1
  have l2 := step_le a b (missStep a b (missStep a b [] 0) 1) 2
  have l3 := step_le a b (missStep a b (missStep a b (missStep a b [] 0) 1) 2) 3
  have s : ∀ out n, 400 < (missStep a b out n).length ∨ (missStep a b out n = out ++ (clkMiss a b n ++ cldMiss a b n)) := fun out n => by
    by_cases h0 : 400 < (out ++ (clkMiss a b n ++ cldMiss a b n)).length
    · exact .inl (step_big a b out n h0)
    · exact .inr (step_eq a b out n (by omega))
  rcases s [] 0 with h0 | e0
  · omega
  rcases s (missStep a b [] 0) 1 with h1 | e1
  · omega
  rcases s (missStep a b (missStep a b [] 0) 1) 2 with h2 | e2
  · omega
  rcases s (missStep a b (missStep a b (missStep a b [] 0) 1) 2) 3 with h3 | e3
  · omega
  rw [e3, e2, e1, e0]
  exact h

theorem missL_mem {a b : Ctx} {d : Int × Int} (hd : 0 ≤ d.1 ∧ d.1 < 4 ∧ 1 ≤ d.2) (hb : clkIn b) : d ∈ missL a b ↔ hasB a d = true ∧ hasB b d = false := by
  have one : ∀ n, d ∈ clkMiss a b n ++ cldMiss a b n ↔ d.1 = n ∧ hasB b d = false ∧ ((b.at_ n + 1 ≤ d.2 ∧ d.2 ≤ a.at_ n) ∨ d ∈ a.cloud) := by
    intro n
    rw [List.mem_append, clkMiss_mem]
    simp only [cldMiss, List.mem_filter, Bool.and_eq_true, decide_eq_true_eq, Bool.not_eq_true']
    constructor
    · rintro (⟨h1, h2, h3, h4⟩ | ⟨h1, h2, h3⟩)
      · exact ⟨h1, h4, .inl ⟨h2, h3⟩⟩
      · exact ⟨h2, h3, .inr h1⟩
    · rintro ⟨h1, h2, (⟨h3, h4⟩ | h3)⟩
      · exact .inl ⟨h1, h3, h4, h2⟩
      · exact .inr ⟨h3, h1, h2⟩
  have key : ∀ n, d.1 = n → ((b.at_ n + 1 ≤ d.2 ∧ d.2 ≤ a.at_ n) ∨ d ∈ a.cloud) → hasB b d = false → hasB a d = true := by
    intro n e h _
    rw [hasB_iff]
    rcases h with ⟨h1, h2⟩ | h
    · exact .inl ⟨hd.1, hd.2.1, hd.2.2, by rw [e]; exact h2⟩
    · exact .inr h
  have key2 : hasB a d = true → hasB b d = false → ((b.at_ d.1 + 1 ≤ d.2 ∧ d.2 ≤ a.at_ d.1) ∨ d ∈ a.cloud) := by
    intro h h2
    rcases hasB_iff.1 h with ⟨_, _, _, h3⟩ | h3
    · refine .inl ⟨?_, h3⟩
      refine Int.le_of_not_gt fun hlt => ?_
      have : hasB b d = true := hasB_iff.2 (.inl ⟨hd.1, hd.2.1, hd.2.2, by omega⟩)
      rw [this] at h2; cases h2
    · exact .inr h3
  unfold missL
  rw [List.mem_append, List.mem_append, List.mem_append, one, one, one, one]
  constructor
  · rintro (((⟨h1, h2, h3⟩ | ⟨h1, h2, h3⟩) | ⟨h1, h2, h3⟩) | ⟨h1, h2, h3⟩) <;> exact ⟨key _ h1 h3 h2, h2⟩
  · rintro ⟨h1, h2⟩
    have h3 := key2 h1 h2
    rcases (by omega : d.1 = 0 ∨ d.1 = 1 ∨ d.1 = 2 ∨ d.1 = 3) with e | e | e | e <;> rw [e] at h3
    · exact .inl (.inl (.inl ⟨e, h2, h3⟩))
    · exact .inl (.inl (.inr ⟨e, h2, h3⟩))
    · exact .inl (.inr ⟨e, h2, h3⟩)
    · exact .inr ⟨e, h2, h3⟩

theorem missL_right {a b : Ctx} (ha : okC a) (hb : clkIn b) {d : Int × Int} (h : d ∈ missL a b) : rightB d.1 d.2 = true := by
  have one : ∀ n, 0 ≤ n → n < 4 → d ∈ clkMiss a b n ++ cldMiss a b n → rightB d.1 d.2 = true := by
    intro n h0 h4 h
    rcases List.mem_append.1 h with h | h
    · have h1 := clkMiss_mem.1 h
      have h2 := at_in ha.1 n
      have h3 := at_in hb n
      rw [right_iff]; omega
    · simp only [cldMiss, List.mem_filter] at h
      exact (ha.2.1 d h.1).1
  unfold missL at h
  rcases List.mem_append.1 h with h | h
  · rcases List.mem_append.1 h with h | h
    · rcases List.mem_append.1 h with h | h
      · exact one 0 (by omega) (by omega) h
      · exact one 1 (by omega) (by omega) h
    · exact one 2 (by omega) (by omega) h
  · exact one 3 (by omega) (by omega) h

theorem less_miss {a b : Ctx} (ha : okC a) (hb : okC b) : lessB a b = decide (missL a b = []) := by
  rw [Bool.eq_iff_iff, less_iff ha hb, decide_eq_true_eq]
  constructor
  · intro h
    refine List.eq_nil_iff_forall_not_mem.2 fun d hd => ?_
    have hr := right_iff.1 (missL_right ha hb.1 hd)
    have h2 := (missL_mem ⟨hr.1, hr.2.1, hr.2.2.1⟩ hb.1).1 hd
    rw [h d h2.1] at h2
    cases h2.2
  · intro h d hd
    cases hq : hasB b d with
    | true => rfl
    | false =>
      have hr : 0 ≤ d.1 ∧ d.1 < 4 ∧ 1 ≤ d.2 := by
        rcases hasB_iff.1 hd with h1 | h1
        · exact ⟨h1.1, h1.2.1, h1.2.2.1⟩
        · have := right_iff.1 (ha.2.1 d h1).1; exact ⟨this.1, this.2.1, this.2.2.1⟩
      have := (missL_mem hr hb.1).2 ⟨hd, hq⟩
      rw [h] at this; cases this
end Go.Proofs.Ytnnabfjlmenmgaa
/- viewref.Missing. -/
namespace Go.Proofs.Ytnnabfjlmenmgaa
set_option linter.unusedVariables false
open Go.ChangeShapes Go.WideShapes Go.ChangeAt Go.RowKit

def DotsPost (l : List (Int × Int)) (w : World) (e : Ending) (w' : World) : Prop :=
  ∃ v, e = .returned v ∧ w'.ownsRow w.heap.size 51 2 v l.length (dcells l) ∧ Below w.heap.size w w'

def missUp (a b : Ctx) : Nat → List (Int × Int)
  | 0 => []
  | i + 1 => missStep a b (missUp a b i) i
theorem missUp_R (a b : Ctx) : missUp a b 4 = missR a b := rfl
theorem missUp_le (a b : Ctx) (h : a.cloud.length ≤ 400) : ∀ i, (missUp a b i).length ≤ 401 + 400 * i
  | 0 => by simp [missUp]
  | i + 1 => by
    have ih := missUp_le a b h i
    have h1 : (cldMiss a b i).length ≤ a.cloud.length := List.length_filter_le _ _
    simp only [missUp, missStep, List.length_append, List.length_take]
    omega

theorem cap_snoc {α : Type} (O C : List α) (d : α) (h : (O ++ C.take (401 - O.length)).length ≤ 400) : O ++ (C ++ [d]).take (401 - O.length) = (O ++ C.take (401 - O.length)) ++ [d] := by
  simp only [List.length_append, List.length_take] at h
  rw [List.take_of_length_le (by simp; omega), List.take_of_length_le (by omega), List.append_assoc]
theorem cap_full {α : Type} (O C D : List α) (h : 400 < (O ++ C.take (401 - O.length)).length) : O ++ (C ++ D).take (401 - O.length) = O ++ C.take (401 - O.length) := by
  simp only [List.length_append, List.length_take] at h
  rw [List.take_append_of_le_length (by omega)]
theorem clkDots_prefix (a b : Ctx) (n : Int) (j : Nat) : ∀ K, j ≤ K → ∃ D, clkDots a b n K = clkDots a b n j ++ D
  | 0, h => ⟨[], by rw [show j = 0 by omega]; simp⟩
  | K + 1, h => by
    by_cases e : j = K + 1
    · exact ⟨[], by rw [e]; simp⟩
    · obtain ⟨D, hD⟩ := clkDots_prefix a b n j K (by omega)
      exact ⟨D ++ _, by rw [clkDots_succ, hD, List.append_assoc]⟩
theorem grown_below {B : Nat} {w0 w1 w2 : World} {n : Nat} {T : TypeId} {v : Value} {xs : List Value} (h : Below B w0 w1) (hg : w1.grownBy w2 v.ownBlock) (ho : w1.ownsRow B T 2 v n xs) (hB : B ≤ w1.heap.size) : Below B w0 w2 :=
  h.grown hg hB (fun g e => (ho.lt g e).1)

end Go.Proofs.Ytnnabfjlmenmgaa
/- dot.Minus. -/
namespace Go.Proofs.Ytnnabfjlmenmgaa
set_option linter.unusedVariables false
open Go.ChangeShapes Go.WideShapes Go.ChangeAt Go.RowKit

def DotsErr (l : List (Int × Int)) (x : Int) (w : World) (e : Ending) (w' : World) : Prop :=
  ∃ v, e = .returned (.tuple #[v, .int .i64 x]) ∧ w'.ownsRow w.heap.size 51 2 v l.length (dcells l) ∧ Below w.heap.size w w'

theorem ret_vi {v : Value} {x y : Int} (h : x = y) : Ending.returned (.tuple #[v, .int .i64 x]) = .returned (.tuple #[v, .int .i64 y]) := by rw [h]

def minusX (a b : Ctx) : List (Int × Int) := if twoI a b ≠ 0 then [] else if 400 < (clkAll a b ++ cldAll a b).length then [] else (clkAll a b ++ cldAll a b).mergeSort dotLe
def minusE (a b : Ctx) : Int := if twoI a b ≠ 0 then twoI a b else if 400 < (clkAll a b ++ cldAll a b).length then 2 else 0

def clkUp (a b : Ctx) : Nat → List (Int × Int)
  | 0 => []
  | i + 1 => clkUp a b i ++ clkMiss a b i
theorem clkUp_all (a b : Ctx) : clkUp a b 4 = clkAll a b := rfl
theorem clkUp_le (a b : Ctx) {i j : Nat} (h : i ≤ j) : (clkUp a b i).length ≤ (clkUp a b j).length := by
  induction j with
  | zero => rw [show i = 0 by omega]; exact Nat.le_refl _
  | succ j ih =>
    by_cases e : i = j + 1
    · rw [e]; exact Nat.le_refl _
    · have := ih (by omega)
      simp only [clkUp, List.length_append]
      omega

theorem clk_at (c : Ctx) (i : Nat) (h : i < 4) (w : World) : (Instr.index 22 (clkv c.c0 c.c1 c.c2 c.c3) (.int .i64 (i : Int))).run Try.prog w = .ok (.int .i64 (c.at_ i)) w := by
  rcases (by omega : i = 0 ∨ i = 1 ∨ i = 2 ∨ i = 3) with e | e | e | e <;> subst e
  · exact clk0 _ _ _ _ w
  · exact clk1 _ _ _ _ w
  · exact clk2 _ _ _ _ w
  · exact clk3 _ _ _ _ w

end Go.Proofs.Ytnnabfjlmenmgaa
/- dot.Join, viewref.Joined. -/
namespace Go.Proofs.Ytnnabfjlmenmgaa
set_option linter.unusedVariables false
open Go.ChangeShapes Go.WideShapes Go.ChangeAt Go.RowKit

def joinX (a b : Ctx) : Ctx := if twoI a b ≠ 0 then ⟨0, 0, 0, 0, []⟩ else if 400 < (joinC a b).cloud.length then ⟨0, 0, 0, 0, []⟩ else joinC a b
def joinE (a b : Ctx) : Int := if twoI a b ≠ 0 then twoI a b else if 400 < (joinC a b).cloud.length then 2 else 0

abbrev set5 (w : World) (b : Nat) (y0 y1 y2 y3 y4 : Value) : World := ((((w.setCell ⟨b, 0, none⟩ y0).setCell ⟨b, 1, none⟩ y1).setCell ⟨b, 2, none⟩ y2).setCell ⟨b, 3, none⟩ y3).setCell ⟨b, 4, none⟩ y4
theorem Blk.set5 {w : World} {b : Nat} {x0 x1 x2 x3 x4 : Value} {T : TypeId} (h : Blk w b #[x0, x1, x2, x3, x4] T) (y0 y1 y2 y3 y4 : Value) : Blk (set5 w b y0 y1 y2 y3 y4) b #[y0, y1, y2, y3, y4] T :=
  ((((h.set 0 y0).set 1 y1).set 2 y2).set 3 y3).set 4 y4
theorem Row.set5 {w : World} {b lo : Nat} {A : Option Addr} {xs : List Value} (h : Row w w.heap.size A xs) (hn : NewAt lo A) (hb : b < lo) (y0 y1 y2 y3 y4 : Value) : Row (set5 w b y0 y1 y2 y3 y4) (set5 w b y0 y1 y2 y3 y4).heap.size A xs :=
  (((((h.setCell_new hn (a := ⟨b, 0, none⟩) hb y0).setCell_new hn (a := ⟨b, 1, none⟩) hb y1).setCell_new hn (a := ⟨b, 2, none⟩) hb y2).setCell_new hn (a := ⟨b, 3, none⟩) hb y3).setCell_new hn (a := ⟨b, 4, none⟩) hb y4).more (by simp)
theorem Below.set5 {B : Nat} {a w : World} {b : Nat} (h : Below B a w) (hb : B ≤ b) (y0 y1 y2 y3 y4 : Value) : Below B a (set5 w b y0 y1 y2 y3 y4) :=
  ((((h.setCell (p := ⟨b, 0, none⟩) hb y0).setCell (p := ⟨b, 1, none⟩) hb y1).setCell (p := ⟨b, 2, none⟩) hb y2).setCell (p := ⟨b, 3, none⟩) hb y3).setCell (p := ⟨b, 4, none⟩) hb y4

theorem el_dot : Elem Try.prog 23 51 2 16 := by
  obtain ⟨i0, hi0, hz0, hz1, hz2⟩ := info_parts info_dot
  exact ⟨Try.underlying23, ⟨i0, _, hi0, hz0, hz1, hz2, rfl⟩, by decide⟩

theorem twoI_zero {a b : Ctx} : twoI a b = 0 ↔ checkI a = 0 ∧ checkI b = 0 := by
  unfold twoI
  by_cases h : checkI a = 0 <;> simp [h]

end Go.Proofs.Ytnnabfjlmenmgaa
/- viewref.Joined. -/
namespace Go.Proofs.Ytnnabfjlmenmgaa
set_option linter.unusedVariables false
open Go.ChangeShapes Go.WideShapes Go.ChangeAt Go.RowKit

def mxA (a b : Ctx) (i : Nat) : Array Value := #[.int .i64 (if 0 < i then max a.c0 b.c0 else a.c0), .int .i64 (if 1 < i then max a.c1 b.c1 else a.c1), .int .i64 (if 2 < i then max a.c2 b.c2 else a.c2), .int .i64 (if 3 < i then max a.c3 b.c3 else a.c3)]
theorem mx_get (a b : Ctx) (i : Nat) (h : i < 4) : (mxA a b i)[i]? = some (.int .i64 (a.at_ i)) := by
  rcases (by omega : i = 0 ∨ i = 1 ∨ i = 2 ∨ i = 3) with e | e | e | e <;> subst e <;> rfl
theorem mx_set (a b : Ctx) (i : Nat) (h : i < 4) (hc : a.at_ i < b.at_ i) : (mxA a b i).setIfInBounds i (.int .i64 (b.at_ i)) = mxA a b (i + 1) := by
  rcases (by omega : i = 0 ∨ i = 1 ∨ i = 2 ∨ i = 3) with e | e | e | e <;> subst e <;> simp [mxA, Ctx.at_] at * <;> omega
theorem mx_keep (a b : Ctx) (i : Nat) (h : i < 4) (hc : ¬ a.at_ i < b.at_ i) : mxA a b i = mxA a b (i + 1) := by
  rcases (by omega : i = 0 ∨ i = 1 ∨ i = 2 ∨ i = 3) with e | e | e | e <;> subst e <;> simp [mxA, Ctx.at_] at * <;> omega
theorem mx_zero (a b : Ctx) : mxA a b 0 = #[.int .i64 a.c0, .int .i64 a.c1, .int .i64 a.c2, .int .i64 a.c3] := rfl
theorem mx_four (a b : Ctx) : mxA a b 4 = #[.int .i64 (max a.c0 b.c0), .int .i64 (max a.c1 b.c1), .int .i64 (max a.c2 b.c2), .int .i64 (max a.c3 b.c3)] := rfl

end Go.Proofs.Ytnnabfjlmenmgaa
/- table.Check, viewref.Table. -/
namespace Go.Proofs.Ytnnabfjlmenmgaa
set_option linter.unusedVariables false
open Go.ChangeShapes Go.WideShapes Go.ChangeAt Go.RowKit

def celOk (c : Ctx) (x : Cel) : Bool := rightB x.d.1 x.d.2 && hasB c x.d && inB x.key 0 49 && (inB x.col 0 2 && inB x.val (-1000) 1000)
def badCel (t : Tab) (i : Nat) : Bool := !celOk t.c (t.cells.getD i ⟨(0, 0), 0, 0, 0⟩) || (decide (0 < i) && !before (t.cells.getD (i - 1) ⟨(0, 0), 0, 0, 0⟩).d (t.cells.getD i ⟨(0, 0), 0, 0, 0⟩).d)
def tabI (t : Tab) : Int := if checkI t.c ≠ 0 then checkI t.c else if 400 < t.cells.length then 2 else if (List.range t.cells.length).any (badCel t) then 5 else 0
theorem tabI_ctx {t : Tab} (h : checkI t.c ≠ 0) : tabI t = checkI t.c := by unfold tabI; rw [if_pos h]
theorem tabI_large {t : Tab} (h : checkI t.c = 0) (h2 : 400 < t.cells.length) : tabI t = 2 := by unfold tabI; rw [if_neg (by simp [h]), if_pos h2]
theorem tabI_form {t : Tab} (h : checkI t.c = 0) (h2 : t.cells.length ≤ 400) {i : Nat} (hi : i < t.cells.length) (hb : badCel t i = true) : tabI t = 5 := by
  unfold tabI
  rw [if_neg (by simp [h]), if_neg (by omega), if_pos (List.any_eq_true.2 ⟨i, List.mem_range.2 hi, hb⟩)]
theorem tabI_ok {t : Tab} (h : checkI t.c = 0) (h2 : t.cells.length ≤ 400) (hg : ∀ i, i < t.cells.length → badCel t i = false) : tabI t = 0 := by
  unfold tabI
  rw [if_neg (by simp [h]), if_neg (by omega), if_neg]
  intro hq
  obtain ⟨i, hi, hb⟩ := List.any_eq_true.1 hq
  rw [hg i (List.mem_range.1 hi)] at hb
  cases hb
theorem badCel_at {t : Tab} {i : Nat} (h : i < t.cells.length) : badCel t i = (!celOk t.c t.cells[i] || (decide (0 < i) && !before (t.cells.getD (i - 1) ⟨(0, 0), 0, 0, 0⟩).d t.cells[i].d)) := by
  unfold badCel
  simp [List.getD, h]

set_option maxRecDepth 100000 in
theorem within_any (n lo hi : Int) (w : World) : Calls Try.prog 45 #[.int .i64 n, .int .i64 lo, .int .i64 hi] w fun e w' => e = .returned (.bool (inB n lo hi)) ∧ w = w' := by
  go_enter Try.func45, Try.ntmps45
  by_cases h1 : lo ≤ n <;> by_cases h2 : n ≤ hi
  all_goals
    go_wp2
    go_ret
    exact ⟨ret_bool (by simp [inB]; omega), rfl⟩
set_option maxRecDepth 100000 in
theorem keyed_any (n : Int) (w : World) : Calls Try.prog 34 #[.int .i64 n] w fun e w' => e = .returned (.bool (inB n 0 49)) ∧ w = w' := by
  go_enter Try.func34, Try.ntmps34
  go_wp2_with (refine (within_any _ _ _ _).mono ?_; rintro e w' ⟨rfl, rfl⟩)
  go_ret
  exact ⟨rfl, rfl⟩
set_option maxRecDepth 100000 in
theorem valued_any (c v : Int) (w : World) : Calls Try.prog 35 #[.int .i64 c, .int .i64 v] w fun e w' => e = .returned (.bool (inB c 0 2 && inB v (-1000) 1000)) ∧ w = w' := by
  have H0 := fun w => within_any c 0 2 w
  cases h : inB c 0 2
  all_goals
    rw [h] at H0
    have H := hid H0
    clear H0 h
    go_enter Try.func35, Try.ntmps35
    go_wp2_with fail
    refine (H.out _).mono ?_
    rintro e w' ⟨rfl, rfl⟩
    go_wp2_with (refine (within_any _ _ _ _).mono ?_; rintro e w' ⟨rfl, rfl⟩)
    go_ret
    exact ⟨ret_bool (by simp), rfl⟩

theorem make_lit1 (d : Int × Int) (A : Option Addr) (k : Nat) (w : World) (hr : Row w w.heap.size A (dcells [d])) : Calls Try.prog 32 #[.slice A 1 k] w (CtxErr (makeC [d]) (if rightB d.1 d.2 = true then 0 else 5) w) := by
  have h := make_any [d] A k w hr (by simp)
  have e : makeE [d] = if rightB d.1 d.2 = true then 0 else 5 := by
    unfold makeE
    cases hq : rightB d.1 d.2 <;> simp [hq]
  rw [e] at h
  exact h

theorem celOk_parts {c : Ctx} {x : Cel} (h1 : rightB x.d.1 x.d.2 = true) (h2 : hasB c x.d = true) (h3 : inB x.key 0 49 = true) (h4 : (inB x.col 0 2 && inB x.val (-1000) 1000) = true) : celOk c x = true := by
  unfold celOk; rw [h1, h2, h3, h4]; rfl
theorem celOk_no {c : Ctx} {x : Cel} (h : rightB x.d.1 x.d.2 = false ∨ hasB c x.d = false ∨ inB x.key 0 49 = false ∨ (inB x.col 0 2 && inB x.val (-1000) 1000) = false) : celOk c x = false := by
  unfold celOk
  rcases h with h | h | h | h <;> rw [h] <;> simp

set_option maxHeartbeats 4000000 in
set_option maxRecDepth 100000 in
theorem tcheck_any (t : Tab) (A : Option Addr) (k : Nat) (B : Option Addr) (m : Nat) (w : World) (ra : Row w w.heap.size A (dcells t.c.cloud)) (la : t.c.cloud.length ≤ 9223372036854775807)
    (rb : Row w w.heap.size B (tcells t.cells)) (lb : t.cells.length ≤ 9223372036854775807) :
    Calls Try.prog 23 #[tval t A k B m] w fun e w' => e = .returned (.int .i64 (tabI t)) ∧ Below w.heap.size w w' := by
  have HC := hid (fun w1 (hb : Below w.heap.size w w1) => check_any t.c A k w1 (ra.step hb) la)
  have HH := hid (fun w1 (hb : Below w.heap.size w w1) d => has_any t.c d A k w1 (ra.step hb) la)
  have RB := hid (fun w1 (hb : Below w.heap.size w w1) => rb.step hb)
  have HT1 := hid (@tabI_ctx t)
  have HT2 := hid (@tabI_large t)
  have HT3 := hid (@tabI_form t)
  have HT4 := hid (@tabI_ok t)
  have HBA := hid (fun i (h : i < t.cells.length) => badCel_at (t := t) h)
  clear ra rb
  obtain ⟨⟨c0, c1, c2, c3, cl⟩, l⟩ := t
  obtain ⟨c, hc⟩ : ∃ c : Ctx, c = ⟨c0, c1, c2, c3, cl⟩ := ⟨_, rfl⟩
  simp only [tval, cval] at *
  rw [← hc] at HC HH HT1 HT2 HT3 HT4 HBA ⊢
  have HCC := hid hc
  clear hc
  obtain ⟨I, hI⟩ : ∃ I, I = checkI c := ⟨_, rfl⟩
  rw [← hI] at HC HT1 HT2 HT3 HT4
  clear hI
  obtain ⟨R, hR⟩ : ∃ R, R = tabI ⟨c, l⟩ := ⟨_, rfl⟩
  rw [← hR] at HT1 HT2 HT3 HT4 ⊢
  clear hR
  by_cases q : I = 0
  rotate_left
  · have q2 : (I != 0) = true := by simpa using q
    have HR := hid (HT1.out q)
    clear q
    go_enter Try.func23, Try.ntmps23
    go_wp2_with fail
    refine (HC.out _ (by (repeat' (first | (with_reducible exact Below.refl _ _) | (with_reducible assumption) | (with_reducible refine below_drewN ?_ _) | (with_reducible refine Below.drew ?_) | (with_reducible refine Below.alloc ?_ ?_ _) | (with_reducible refine Below.setCell ?_ ?_ _) | (refine Below.trans ?_ (Below.mono (by assumption) ?_)) | go_size)))).mono ?_
    rintro e w1 ⟨rfl, hb1⟩
    go_wp2
    go_ret
    exact ⟨ret_int HR.out.symm, (by refine Below.step' ?_ hb1; (repeat' (first | (with_reducible exact Below.refl _ _) | (with_reducible assumption) | (with_reducible refine below_drewN ?_ _) | (with_reducible refine Below.drew ?_) | (with_reducible refine Below.alloc ?_ ?_ _) | (with_reducible refine Below.setCell ?_ ?_ _) | (refine Below.trans ?_ (Below.mono (by assumption) ?_)) | go_size)))⟩
  · subst q
    go_enter Try.func23, Try.ntmps23
    go_wp2_with fail
    refine (HC.out _ (by (repeat' (first | (with_reducible exact Below.refl _ _) | (with_reducible assumption) | (with_reducible refine below_drewN ?_ _) | (with_reducible refine Below.drew ?_) | (with_reducible refine Below.alloc ?_ ?_ _) | (with_reducible refine Below.setCell ?_ ?_ _) | (refine Below.trans ?_ (Below.mono (by assumption) ?_)) | go_size)))).mono ?_
    rintro e w1 ⟨rfl, hb1⟩
    have HBW := hid (show Below w.heap.size w w1 from (by refine Below.step' ?_ hb1; (repeat' (first | (with_reducible exact Below.refl _ _) | (with_reducible assumption) | (with_reducible refine below_drewN ?_ _) | (with_reducible refine Below.drew ?_) | (with_reducible refine Below.alloc ?_ ?_ _) | (with_reducible refine Below.setCell ?_ ?_ _) | (refine Below.trans ?_ (Below.mono (by assumption) ?_)) | go_size))))
    have HXT := hid (Blk.step (Blk.new w #[.int .i64 c0, .int .i64 c1, .int .i64 c2, .int .i64 c3, .slice A cl.length k, .slice B l.length m] 28) hb1)
    clear hb1
    obtain ⟨cHXT, fHXT, sHXT, nHXT⟩ := HXT.out.all
    try simp only [cbox] at cHXT
    by_cases h4 : 400 < l.length
    · have hq : decide ((400 : Int) < (l.length : Int)) = true := by simp; omega
      have HR := hid (HT2.out trivial h4)
      go_wp2
      go_ret
      exact ⟨ret_int HR.out.symm, HBW.out⟩
    · have hq : decide ((400 : Int) < (l.length : Int)) = false := by simp; omega
      go_wp2
      clear cHXT fHXT sHXT nHXT
      go_loopw [21] (fun s21 wr => ∃ i : Nat, i ≤ l.length ∧ s21 = .int .i64 i ∧ (∀ j, j < i → badCel ⟨c, l⟩ j = false) ∧ Below w1.heap.size w1 wr) (fun s21 _ => l.length - (intOf s21).toNat)
      case atStart => exact ⟨0, by omega, rfl, fun j h => absurd h (by omega), Below.refl _ _⟩
      case round =>
        obtain ⟨i, hi, rfl, hno, hbw⟩ := hrel
        have HN := hid hno
        have HB := hid (Below.step' HBW.out hbw)
        have HB1 := hid hbw
        have HXR := hid (HXT.out.step hbw)
        clear hno hbw
        by_cases hlt : i < l.length
        · obtain ⟨b, off, hA, hb, e0, e1, e2, e3, e4⟩ := (RB.out wr HB.out).cel hlt
          subst hA
          have hp : 0 < i → ∃ p : Int × Int, (l.getD (i - 1) ⟨(0, 0), 0, 0, 0⟩).d = p ∧ ∀ w1, Below w.heap.size w w1 → w1.cell? ⟨b, off + (i - 1) * 5, none⟩ = some (.int .i64 p.1) ∧ w1.cell? ⟨b, off + (i - 1) * 5 + 1, none⟩ = some (.int .i64 p.2) := by
            intro hm
            refine ⟨l[i - 1].d, by simp [List.getD, show i - 1 < l.length by omega], fun w1 hb1 => ?_⟩
            obtain ⟨b', off', he, hb', h0', h1', -⟩ := (RB.out w1 hb1).cel (k := i - 1) (by omega)
            injection he with he
            injection he with he1 he2
            subst he1 he2
            exact ⟨h0', h1'⟩
          have HBAD := hid (HBA.out i hlt)
          have HT3i := hid (fun hb => HT3.out trivial (by simpa using h4) (i := i) hlt hb)
          try simp only at HBAD
          generalize l[i] = x at *
          obtain ⟨⟨d0, d1⟩, key, col, val⟩ := x
          simp only at e0 e1 e2 e3 e4
          obtain ⟨cHXR, fHXR, sHXR, nHXR⟩ := HXR.out.all
          try simp only [cbox] at cHXR
          have hneb : (b = wr.heap.size) = False := by simp; omega
          go_wp2_with fail
          refine (make_lit1 (d0, d1) _ _ _ (by exact Row.new' (wr.alloc _) _ _ (by simp) rfl (by simp))).mono ?_
          rintro e w2 ⟨A2, k2, rfl, hr2, hb2, hn2⟩
          have hB2 : Below wr.heap.size wr w2 := (by refine Below.step' ?_ hb2; (repeat' (first | (with_reducible exact Below.refl _ _) | (with_reducible assumption) | (with_reducible refine below_drewN ?_ _) | (with_reducible refine Below.drew ?_) | (with_reducible refine Below.alloc ?_ ?_ _) | (with_reducible refine Below.setCell ?_ ?_ _) | (refine Below.trans ?_ (Below.mono (by assumption) ?_)) | go_size)))
          have HX5 := hid (Blk.thru (B := wr.heap.size + 1 + 1) (w := (wr.alloc (.cells #[.int .i64 d0, .int .i64 d1, .int .i64 key, .int .i64 col, .int .i64 val] 53)).alloc (.cells #[.int .i64 d0, .int .i64 d1] 51)) (b := wr.heap.size) (cs := #[.int .i64 d0, .int .i64 d1, .int .i64 key, .int .i64 col, .int .i64 val]) (T := 53) (by exact (Blk.new wr _ _).alloc _) (by simpa using hb2) (by omega))
          clear cHXR fHXR sHXR nHXR
          replace HXR := hid (HXR.out.step hB2)
          have HB2 := hid (Below.step' HB.out hB2)
          have HB12 := hid (Below.step' HB1.out hB2)
          have hs2 := hB2.size
          clear hb2 hB2 hr2 hn2 e0 e1 e2 e3 e4 hneb hb
          obtain ⟨cHXR, fHXR, sHXR, nHXR⟩ := HXR.out.all
          try simp only [cbox] at cHXR
          obtain ⟨cHX5, fHX5, sHX5, nHX5⟩ := HX5.out.all
          try simp only [cbox] at cHX5
          have hbo : Below w.heap.size w (w2.alloc (.cells (cbox (makeC [(d0, d1)]) A2 k2) 25)) := HB2.out.alloc HB2.out.size _
          have hbo1 : Below w1.heap.size w1 (w2.alloc (.cells (cbox (makeC [(d0, d1)]) A2 k2) 25)) := HB12.out.alloc HB12.out.size _
          have HBO := hid hbo
          have HBO1 := hid hbo1
          clear hbo hbo1
          simp only [cbox] at HBO HBO1
          obtain ⟨K, hK⟩ : ∃ K, K = makeC [(d0, d1)] := ⟨_, rfl⟩
          rw [← hK] at HBO HBO1 ⊢
          clear hK
          simp only [cval]
          cases hright : rightB d0 d1
          · have HR := hid (HT3i.out (by rw [HBAD.out, celOk_no (.inl hright)]; rfl))
            simp only [Bool.false_eq_true, if_false]
            go_wp2
            go_ret
            exact ⟨ret_int HR.out.symm, HBO.out⟩
          · simp only [if_true]
            have hh := fun w1 (hb : Below w.heap.size w w1) => HH.out w1 hb (d0, d1)
            cases hhas : hasB c (d0, d1)
            · have HR := hid (HT3i.out (by rw [HBAD.out, celOk_no (.inr (.inl hhas))]; rfl))
              rw [hhas] at hh
              have HHQ := hid hh
              clear hh
              go_wp2_with fail
              refine (HHQ.out _ HBO.out).mono ?_
              rintro e w3 ⟨rfl, hb3⟩
              go_wp2
              go_ret
              exact ⟨ret_int HR.out.symm, Below.step' HBO.out hb3⟩
            · rw [hhas] at hh
              have HHQ := hid hh
              clear hh
              have hky := fun w => keyed_any key w
              have hva := fun w => valued_any col val w
              cases hkey : inB key 0 49
              · have HR := hid (HT3i.out (by rw [HBAD.out, celOk_no (.inr (.inr (.inl hkey)))]; rfl))
                rw [hkey] at hky
                have HKY := hid hky
                clear hky hva
                go_wp2_with fail
                refine (HHQ.out _ HBO.out).mono ?_
                rintro e w3 ⟨rfl, hb3⟩
                have hB3 : Below w2.heap.size w2 w3 := (by refine Below.step' ?_ hb3; (repeat' (first | (with_reducible exact Below.refl _ _) | (with_reducible assumption) | (with_reducible refine below_drewN ?_ _) | (with_reducible refine Below.drew ?_) | (with_reducible refine Below.alloc ?_ ?_ _) | (with_reducible refine Below.setCell ?_ ?_ _) | (refine Below.trans ?_ (Below.mono (by assumption) ?_)) | go_size)))
                clear cHX5 fHX5 sHX5 nHX5
                replace HX5 := hid (HX5.out.step hB3)
                obtain ⟨cHX5, fHX5, sHX5, nHX5⟩ := HX5.out.all
                try simp only [cbox] at cHX5
                go_wp2_with fail
                refine (HKY.out _).mono ?_
                rintro e w4 ⟨rfl, rfl⟩
                go_wp2
                go_ret
                exact ⟨ret_int HR.out.symm, Below.step' HBO.out hb3⟩
              · cases hval : (inB col 0 2 && inB val (-1000) 1000)
                · have HR := hid (HT3i.out (by rw [HBAD.out, celOk_no (.inr (.inr (.inr hval)))]; rfl))
                  rw [hkey] at hky
                  rw [hval] at hva
                  have HKY := hid hky
                  have HVA := hid hva
                  clear hky hva hkey hval
                  go_wp2_with fail
                  refine (HHQ.out _ HBO.out).mono ?_
                  rintro e w3 ⟨rfl, hb3⟩
                  have hB3 : Below w2.heap.size w2 w3 := (by refine Below.step' ?_ hb3; (repeat' (first | (with_reducible exact Below.refl _ _) | (with_reducible assumption) | (with_reducible refine below_drewN ?_ _) | (with_reducible refine Below.drew ?_) | (with_reducible refine Below.alloc ?_ ?_ _) | (with_reducible refine Below.setCell ?_ ?_ _) | (refine Below.trans ?_ (Below.mono (by assumption) ?_)) | go_size)))
                  clear cHX5 fHX5 sHX5 nHX5
                  replace HX5 := hid (HX5.out.step hB3)
                  obtain ⟨cHX5, fHX5, sHX5, nHX5⟩ := HX5.out.all
                  try simp only [cbox] at cHX5
                  go_wp2_with fail
                  refine (HKY.out _).mono ?_
                  rintro e w4 ⟨rfl, rfl⟩
                  go_wp2_with fail
                  refine (HVA.out _).mono ?_
                  rintro e w4 ⟨rfl, rfl⟩
                  go_wp2
                  go_ret
                  exact ⟨ret_int HR.out.symm, Below.step' HBO.out hb3⟩
                · have hok := celOk_parts (c := c) (x := ⟨(d0, d1), key, col, val⟩) hright hhas hkey hval
                  rw [hkey] at hky
                  rw [hval] at hva
                  have HKY := hid hky
                  have HVA := hid hva
                  have hbad := HBAD.out
                  rw [hok] at hbad
                  have HBD := hid hbad
                  clear hky hva hkey hval hok hbad hright hhas
                  go_wp2_with fail
                  refine (HHQ.out _ HBO.out).mono ?_
                  rintro e w3 ⟨rfl, hb3⟩
                  have hB3 : Below w2.heap.size w2 w3 := (by refine Below.step' ?_ hb3; (repeat' (first | (with_reducible exact Below.refl _ _) | (with_reducible assumption) | (with_reducible refine below_drewN ?_ _) | (with_reducible refine Below.drew ?_) | (with_reducible refine Below.alloc ?_ ?_ _) | (with_reducible refine Below.setCell ?_ ?_ _) | (refine Below.trans ?_ (Below.mono (by assumption) ?_)) | go_size)))
                  clear cHX5 fHX5 sHX5 nHX5
                  clear cHXR fHXR sHXR nHXR
                  replace HX5 := hid (HX5.out.step hB3)
                  replace HXR := hid (HXR.out.step hB3)
                  have HB3 := hid (Below.step' HBO.out hb3)
                  have HB13 := hid (Below.step' HBO1.out hb3)
                  have hs3 := hB3.size
                  clear hb3 hB3
                  obtain ⟨cHX5, fHX5, sHX5, nHX5⟩ := HX5.out.all
                  try simp only [cbox] at cHX5
                  obtain ⟨cHXR, fHXR, sHXR, nHXR⟩ := HXR.out.all
                  try simp only [cbox] at cHXR
                  go_wp2_with fail
                  refine (HKY.out _).mono ?_
                  rintro e w4 ⟨rfl, rfl⟩
                  go_wp2_with fail
                  refine (HVA.out _).mono ?_
                  rintro e w4 ⟨rfl, rfl⟩
                  by_cases hk0 : 0 < i
                  · obtain ⟨⟨p0, p1⟩, hpe, hpc⟩ := hp hk0
                    obtain ⟨g0, g1⟩ := hpc w3 HB3.out
                    have hd : decide ((0 : Int) < (i : Int)) = true := by simp; omega
                    have hd2 : decide (0 < i) = true := by simp; omega
                    simp only at g0 g1
                    clear hp hpc
                    have z1 : IntKind.i64.wrap ((i : Int) - 1) = (i : Int) - 1 := IntWalk.i64_in _ (by omega)
                    have z2 : (1 : Int) ≤ (i : Int) := by omega
                    have z3 : (i : Int) - 1 < (l.length : Int) := by omega
                    have z4 : ((i : Int) - 1).toNat = i - 1 := by omega
                    have hblt : b < w3.heap.size := World.block_lt_of_cell? _ _ g0
                    have hbd := HBD.out
                    rw [hpe, hd2] at hbd
                    simp only [Bool.not_true, Bool.false_or, Bool.true_and] at hbd
                    have HBD2 := hid hbd
                    clear hpe hbd HBD HBAD hd2
                    cases hbf : decide (0 ≤ or2 (cmpI p0 d0) (cmpI p1 d1))
                    · have hbe : before (p0, p1) (d0, d1) = true := by
                        have := cmp_before (p0, p1) (d0, d1)
                        cases hq : before (p0, p1) (d0, d1)
                        · rw [hq] at this; simp only [iff_true] at this; rw [decide_eq_false_iff_not] at hbf; exact absurd this hbf
                        · rfl
                      rw [hbe] at HBD2
                      clear hbe
                      go_wp2
                      refine region_ext (by kernel_rfl) (by kernel_rfl) (fun hext => ?_)
                      repeat (any_goals ((with_reducible refine wpQuiet_step (fun K hK => ?_)); go_simp; first | (with_reducible refine hK _ ?_; clear hK K) | ((with_reducible apply Exists.intro); (with_reducible refine ⟨fun _ => ?_, hK _ ?_⟩); ((go_at_call 36; exact ext_call _ (by simp) (order_ints _ _ _ _ _))); clear hK K) | ((with_reducible refine (if_neg ?_).mpr (hK _ ?_)); (decide); clear hK K) | (split <;> (with_reducible refine hK _ ?_; clear hK K))))
                      all_goals ((with_reducible refine wpQuiet_nil ?_); clear hext; intro w1 hx1; have hb1 := ext_below hx1; clear hx1)
                      go_wp2
                      go_roundw
                      case rel =>
                        refine ⟨i + 1, by omega, by go_num, fun j hj => ?_, Below.step' HB13.out hb1⟩
                        by_cases e : j = i
                        · subst e; exact HBD2.out
                        · exact HN.out j (by omega)
                      case measure => simp [intOf]; omega
                    · have hbe : before (p0, p1) (d0, d1) = false := (cmp_before (p0, p1) (d0, d1)).1 (by simpa using hbf)
                      rw [hbe] at HBD2
                      clear hbe
                      go_wp2
                      refine region_ext (by kernel_rfl) (by kernel_rfl) (fun hext => ?_)
                      repeat (any_goals ((with_reducible refine wpQuiet_step (fun K hK => ?_)); go_simp; first | (with_reducible refine hK _ ?_; clear hK K) | ((with_reducible apply Exists.intro); (with_reducible refine ⟨fun _ => ?_, hK _ ?_⟩); ((go_at_call 36; exact ext_call _ (by simp) (order_ints _ _ _ _ _))); clear hK K) | ((with_reducible refine (if_neg ?_).mpr (hK _ ?_)); (decide); clear hK K) | (split <;> (with_reducible refine hK _ ?_; clear hK K))))
                      all_goals ((with_reducible refine wpQuiet_nil ?_); clear hext; intro w1 hx1; have hb1 := ext_below hx1; clear hx1)
                      go_wp2
                      go_ret
                      exact ⟨ret_int (HT3i.out HBD2.out).symm, Below.step' HB3.out hb1⟩
                  · have hd : decide ((0 : Int) < (i : Int)) = false := by simp; omega
                    have hd2 : decide (0 < i) = false := by simp; omega
                    have hbd := HBD.out
                    rw [hd2] at hbd
                    have HBD2 := hid hbd
                    clear hbd HBD HBAD hd2 hp
                    go_wp2
                    refine region_ext (by kernel_rfl) (by kernel_rfl) (fun hext => ?_)
                    repeat (any_goals ((with_reducible refine wpQuiet_step (fun K hK => ?_)); go_simp; first | (with_reducible refine hK _ ?_; clear hK K) | ((with_reducible apply Exists.intro); (with_reducible refine ⟨fun _ => ?_, hK _ ?_⟩); ((go_at_call 36; exact ext_call _ (by simp) (order_ints _ _ _ _ _))); clear hK K) | ((with_reducible refine (if_neg ?_).mpr (hK _ ?_)); (decide); clear hK K) | (split <;> (with_reducible refine hK _ ?_; clear hK K))))
                    all_goals ((with_reducible refine wpQuiet_nil ?_); clear hext; intro w1 hx1; have hb1 := ext_below hx1; clear hx1)
                    go_wp2
                    go_roundw
                    case rel =>
                      refine ⟨i + 1, by omega, by go_num, fun j hj => ?_, Below.step' HB13.out hb1⟩
                      by_cases e : j = i
                      · subst e; exact HBD2.out
                      · exact HN.out j (by omega)
                    case measure => simp [intOf]; omega
        · have HR := hid (HT4.out trivial (by simpa using h4) (fun j hj => HN.out j (by omega)))
          go_wp2
          go_ret
          exact ⟨ret_int HR.out.symm, HB.out⟩
end Go.Proofs.Ytnnabfjlmenmgaa
