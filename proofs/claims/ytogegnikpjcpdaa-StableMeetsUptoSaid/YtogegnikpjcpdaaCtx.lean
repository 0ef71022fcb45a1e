/- Contexts: one that is right is known by what it has. Joins, order. No program in sight. -/
import Derived.Test.YtogegnikpjcpdaaDotT
namespace Go.Proofs.Ytogegnikpjcpdaa
set_option linter.unusedVariables false

def okC (c : Ctx) : Prop := clkIn c ∧ (∀ d ∈ c.cloud, rightB d.1 d.2 = true ∧ c.at_ d.1 + 2 ≤ d.2) ∧ c.cloud.Pairwise (fun a b => before a b = true)

theorem right_iff {d : Int × Int} : rightB d.1 d.2 = true ↔ 0 ≤ d.1 ∧ d.1 < 4 ∧ 1 ≤ d.2 ∧ d.2 ≤ 1099511627776 := by simp [rightB, and_assoc]
theorem before_iff {a b : Int × Int} : before a b = true ↔ a.1 < b.1 ∨ (a.1 = b.1 ∧ a.2 < b.2) := by simp [before]
theorem hasB_iff {c : Ctx} {d : Int × Int} : hasB c d = true ↔ (0 ≤ d.1 ∧ d.1 < 4 ∧ 1 ≤ d.2 ∧ d.2 ≤ c.at_ d.1) ∨ d ∈ c.cloud := by unfold hasB; rw [decide_eq_true_eq]; exact Iff.rfl

theorem pair_of_next {α : Type} {R : α → α → Prop} (ht : ∀ a b c, R a b → R b c → R a c) : ∀ (l : List α), (∀ i (h : i + 1 < l.length), R l[i] l[i + 1]) → l.Pairwise R
  | [], _ => .nil
  | [a], _ => by simp
  | a :: b :: r, h => by
    have ih := pair_of_next ht (b :: r) (fun i hi => h (i + 1) (by simpa using hi))
    have h0 : R a b := by simpa using h 0 (by simp)
    refine List.pairwise_cons.2 ⟨fun x hx => ?_, ih⟩
    rcases List.mem_cons.1 hx with rfl | hx
    · exact h0
    · exact ht _ _ _ h0 ((List.pairwise_cons.1 ih).1 x hx)
theorem before_trans (a b c : Int × Int) (h1 : before a b = true) (h2 : before b c = true) : before a c = true := by
  rw [before_iff] at *; omega

theorem badAt_iff (c : Ctx) (i : Nat) (hi : i < c.cloud.length) : badAt c i = false ↔ rightB (c.cloud[i]).1 (c.cloud[i]).2 = true ∧ (∀ h : 0 < i, before c.cloud[i - 1] c.cloud[i] = true) ∧ c.at_ (c.cloud[i]).1 + 2 ≤ (c.cloud[i]).2 := by
  have e : c.cloud.getD i (0, 0) = c.cloud[i] := by simp [List.getD, hi]
  have e1 : 0 < i → c.cloud.getD (i - 1) (0, 0) = c.cloud[i - 1] := fun _ => by simp [List.getD, show i - 1 < c.cloud.length by omega]
  unfold badAt
  rw [e]
  by_cases h0 : 0 < i
  · rw [e1 h0]
    simp only [h0, decide_true, Bool.true_and, Bool.or_eq_false_iff, Bool.not_eq_false', decide_eq_false_iff_not, and_assoc]
    exact ⟨fun ⟨p, q, r⟩ => ⟨p, fun _ => q, by omega⟩, fun ⟨p, q, r⟩ => ⟨p, q trivial, by omega⟩⟩
  · simp only [h0, decide_false, Bool.false_and, Bool.or_false, Bool.or_eq_false_iff, Bool.not_eq_false', decide_eq_false_iff_not]
    exact ⟨fun ⟨p, r⟩ => ⟨p, fun h => h.elim, by omega⟩, fun ⟨p, q, r⟩ => ⟨p, by omega⟩⟩

theorem checkI_iff (c : Ctx) : checkI c = 0 ↔ okC c ∧ c.cloud.length ≤ 400 := by
  constructor
  · intro h
    obtain ⟨hc, hl, hr⟩ := checkI_zero h
    have hb : ∀ i, i < c.cloud.length → badAt c i = false := by
      intro i hi
      cases hq : badAt c i with
      | false => rfl
      | true =>
        have hclk : (clkOk c.c0 && clkOk c.c1 && clkOk c.c2 && clkOk c.c3) = true := by
          cases hq2 : (clkOk c.c0 && clkOk c.c1 && clkOk c.c2 && clkOk c.c3) with
          | true => rfl
          | false => rw [checkI_arg hq2] at h; cases h
        rw [checkI_form hclk hl hi hq] at h; cases h
    refine ⟨⟨hc, fun d hd => ?_, ?_⟩, hl⟩
    · obtain ⟨i, hi, rfl⟩ := List.getElem_of_mem hd
      have := (badAt_iff c i hi).1 (hb i hi)
      exact ⟨this.1, this.2.2⟩
    · refine pair_of_next before_trans _ fun i hi => ?_
      have := ((badAt_iff c (i + 1) hi).1 (hb (i + 1) hi)).2.1 (by omega)
      simpa using this
  · rintro ⟨⟨hc, hd, hp⟩, hl⟩
    refine checkI_ok ?_ hl fun i hi => (badAt_iff c i hi).2 ⟨(hd _ (List.getElem_mem _)).1, fun h0 => ?_, (hd _ (List.getElem_mem _)).2⟩
    · obtain ⟨⟨a, b⟩, ⟨d, e⟩, ⟨f, g⟩, ⟨p, q⟩⟩ := hc
      simp [clkOk, *]
    · exact (List.pairwise_iff_getElem.1 hp) (i - 1) i (by omega) hi (by omega)

theorem okC_ext {a b : Ctx} (ha : okC a) (hb : okC b) (h : ∀ d, hasB a d = hasB b d) : a = b := by
  have le : ∀ (a b : Ctx), okC a → okC b → (∀ d, hasB a d = hasB b d) → ∀ n, 0 ≤ n → n < 4 → b.at_ n ≤ a.at_ n := by
    intro a b ha hb h n h0 h4
    refine Int.le_of_not_gt fun hlt => ?_
    have h1 := (at_in ha.1 n).1
    have h2 : hasB b (n, a.at_ n + 1) = true := hasB_iff.2 (.inl ⟨h0, h4, by simp only; omega, by simp only; omega⟩)
    rw [← h] at h2
    rcases hasB_iff.1 h2 with h3 | h3
    · simp only at h3; omega
    · have := (ha.2.1 _ h3).2; simp only at this; omega
  have hat : ∀ n, 0 ≤ n → n < 4 → a.at_ n = b.at_ n := fun n h0 h4 => Int.le_antisymm (le b a hb ha (fun d => (h d).symm) n h0 h4) (le a b ha hb h n h0 h4)
  have sub : ∀ (a b : Ctx), okC a → (∀ d, hasB a d = hasB b d) → (∀ n, 0 ≤ n → n < 4 → a.at_ n = b.at_ n) → ∀ d ∈ a.cloud, d ∈ b.cloud := by
    intro a b ha h hat d hd
    obtain ⟨h1, h2⟩ := ha.2.1 d hd
    have hr := right_iff.1 h1
    have h3 : hasB b d = true := by rw [← h]; exact hasB_iff.2 (.inr hd)
    rcases hasB_iff.1 h3 with h4 | h4
    · have := hat d.1 hr.1 hr.2.1; omega
    · exact h4
  have nd : ∀ (a : Ctx), okC a → a.cloud.Nodup := fun a ha => ha.2.2.imp fun {x y} hxy e => by subst e; rw [before_iff] at hxy; omega
  have hp : a.cloud.Perm b.cloud := (List.perm_ext_iff_of_nodup (nd a ha) (nd b hb)).2 fun d => ⟨sub a b ha h hat d, sub b a hb (fun d => (h d).symm) (fun n h0 h4 => (hat n h0 h4).symm) d⟩
  have le2 : ∀ (a : Ctx), okC a → a.cloud.Pairwise (fun a b => dotLe a b = true) := fun a ha => ha.2.2.imp fun {x y} hxy => by
    simp only [dotLe, Bool.not_eq_true']
    cases hq : before y x with
    | false => rfl
    | true => rw [before_iff] at *; omega
  have hcl := sorted_eq hp (le2 a ha) (le2 b hb)
  have e0 := hat 0 (by omega) (by omega)
  have e1 := hat 1 (by omega) (by omega)
  have e2 := hat 2 (by omega) (by omega)
  have e3 := hat 3 (by omega) (by omega)
  simp [Ctx.at_] at e0 e1 e2 e3
  cases a; cases b
  simp_all

theorem at_inc {c : Ctx} {n m : Int} (h0 : 0 ≤ n) (h4 : n < 4) (m0 : 0 ≤ m) (m4 : m < 4) : (c.inc n).at_ m = if m = n then c.at_ n + 1 else c.at_ m := by
  rcases (by omega : n = 0 ∨ n = 1 ∨ n = 2 ∨ n = 3) with h | h | h | h <;> rcases (by omega : m = 0 ∨ m = 1 ∨ m = 2 ∨ m = 3) with g | g | g | g <;> subst h <;> subst g <;> simp [Ctx.inc, Ctx.at_]

theorem refStep_inv {c : Ctx} {d : Int × Int} (hc : okC c) (hd : rightB d.1 d.2 = true) (hx : ∀ x ∈ c.cloud, before x d = true ∨ x = d) :
    okC (refStep c d) ∧ (∀ x, hasB (refStep c d) x = true ↔ hasB c x = true ∨ x = d) ∧ (∀ x ∈ (refStep c d).cloud, x ∈ c.cloud ∨ x = d) := by
  by_cases hh : hasB c d = true
  · rw [refStep_same hh]
    refine ⟨hc, fun x => ⟨.inl, fun h => ?_⟩, fun x hx => .inl hx⟩
    rcases h with h | rfl
    · exact h
    · exact hh
  · have hno : d ∉ c.cloud := fun h => hh (hasB_iff.2 (.inr h))
    have hr := right_iff.1 hd
    have hgt : c.at_ d.1 < d.2 := by
      refine Int.lt_of_not_ge fun h => hh (hasB_iff.2 (.inl ⟨hr.1, hr.2.1, hr.2.2.1, h⟩))
    have hbf : ∀ x ∈ c.cloud, before x d = true := fun x h => by
      rcases hx x h with h1 | h1
      · exact h1
      · subst h1; exact absurd h hno
    have hin := packStep_in hc.1 hd
    have e := ref_pack hd hno
    rw [e]
    by_cases hq : d.2 = c.at_ d.1 + 1
    · have e2 : packStep c d = c.inc d.1 := by unfold packStep; rw [if_neg (by omega), if_pos hq]
      rw [e2] at hin ⊢
      refine ⟨⟨hin, ?_, by rw [inc_cloud]; exact hc.2.2⟩, fun x => ?_, fun x hx => by rw [inc_cloud] at hx; exact .inl hx⟩
      · intro x hx
        rw [inc_cloud] at hx
        obtain ⟨h1, h2⟩ := hc.2.1 x hx
        have hxr := right_iff.1 h1
        refine ⟨h1, ?_⟩
        rw [at_inc hr.1 hr.2.1 hxr.1 hxr.2.1]
        have hb := before_iff.1 (hbf x hx)
        split
        · rename_i e3; rw [e3] at h2; omega
        · exact h2
      · rw [hasB_iff, hasB_iff, inc_cloud]
        constructor
        · rintro (⟨h1, h2, h3, h4⟩ | h)
          · rw [at_inc hr.1 hr.2.1 h1 h2] at h4
            split at h4
            · rename_i e3
              by_cases e4 : x.2 = d.2
              · right; ext <;> omega
              · left; left; exact ⟨h1, h2, h3, by rw [e3]; omega⟩
            · left; left; exact ⟨h1, h2, h3, h4⟩
          · exact .inl (.inr h)
        · rintro ((⟨h1, h2, h3, h4⟩ | h) | rfl)
          · left
            refine ⟨h1, h2, h3, ?_⟩
            rw [at_inc hr.1 hr.2.1 h1 h2]
            split
            · rename_i e3; rw [e3] at h4; omega
            · exact h4
          · exact .inr h
          · left
            refine ⟨hr.1, hr.2.1, hr.2.2.1, ?_⟩
            rw [at_inc hr.1 hr.2.1 hr.1 hr.2.1, if_pos rfl]; omega
    · have e2 : packStep c d = { c with cloud := c.cloud ++ [d] } := by unfold packStep; rw [if_neg (by omega), if_neg hq]
      rw [e2] at hin ⊢
      refine ⟨⟨hin, ?_, ?_⟩, fun x => ?_, fun x hx => by simpa using hx⟩
      · intro x hx
        simp only [List.mem_append, List.mem_singleton] at hx
        rcases hx with hx | rfl
        · exact hc.2.1 x hx
        · exact ⟨hd, by show c.at_ x.1 + 2 ≤ x.2; omega⟩
      · refine List.pairwise_append.2 ⟨hc.2.2, by simp, fun x hx y hy => ?_⟩
        simp only [List.mem_singleton] at hy
        rw [hy]
        exact hbf x hx
      · rw [hasB_iff, hasB_iff]
        simp only [List.mem_append, List.mem_singleton]
        have e3 : ∀ n, Ctx.at_ { c with cloud := c.cloud ++ [d] } n = c.at_ n := fun n => rfl
        simp only [e3, or_assoc]

theorem ref_inv : ∀ (s : List (Int × Int)) (c : Ctx), okC c → s.Pairwise (fun a b => dotLe a b = true) → (∀ d ∈ s, rightB d.1 d.2 = true) → (∀ x ∈ c.cloud, ∀ d ∈ s, before x d = true ∨ x = d) →
    okC (s.foldl refStep c) ∧ ∀ x, hasB (s.foldl refStep c) x = true ↔ hasB c x = true ∨ x ∈ s
  | [], c, hc, _, _, _ => ⟨hc, fun x => by simp⟩
  | d :: s, c, hc, hs, hr, hx => by
    obtain ⟨h1, h2, h3⟩ := refStep_inv hc (hr d (by simp)) (fun x h => hx x h d (by simp))
    have hs' := List.pairwise_cons.1 hs
    obtain ⟨h4, h5⟩ := ref_inv s (refStep c d) h1 hs'.2 (fun y hy => hr y (by simp [hy])) (fun x hx1 y hy => by
      rcases h3 x hx1 with h | rfl
      · exact hx x h y (by simp [hy])
      · have h6 := hs'.1 y hy
        simp only [dotLe, Bool.not_eq_true'] at h6
        by_cases h7 : before x y = true
        · exact .inl h7
        · exact .inr (before_total x y (by simpa using h7) h6))
    refine ⟨h4, fun x => ?_⟩
    rw [List.foldl_cons, h5, h2]
    simp only [List.mem_cons, or_assoc]

theorem pack_ok {c0 c1 c2 c3 : Int} {l : List (Int × Int)} (hc : clkIn ⟨c0, c1, c2, c3, []⟩) (hr : ∀ d ∈ l, rightB d.1 d.2 = true) :
    okC (packL c0 c1 c2 c3 l) ∧ ∀ d, hasB (packL c0 c1 c2 c3 l) d = true ↔ hasB ⟨c0, c1, c2, c3, []⟩ d = true ∨ d ∈ l := by
  rw [← ref_packL c0 c1 c2 c3 l hr]
  obtain ⟨h1, h2⟩ := ref_inv (l.mergeSort dotLe) ⟨c0, c1, c2, c3, []⟩ ⟨hc, by simp, by simp⟩ (sorted_sort l) (fun d hd => hr d (List.mem_mergeSort.1 hd)) (by simp)
  exact ⟨h1, fun d => by rw [h2, List.mem_mergeSort]⟩

theorem pack_length {c0 c1 c2 c3 : Int} {l : List (Int × Int)} : (packL c0 c1 c2 c3 l).cloud.length ≤ l.length := by
  have h : ∀ (s : List (Int × Int)) (c : Ctx), (s.foldl packStep c).cloud.length ≤ c.cloud.length + s.length := by
    intro s
    induction s with
    | nil => simp
    | cons d s ih =>
      intro c
      rw [List.foldl_cons]
      refine Nat.le_trans (ih _) ?_
      have : (packStep c d).cloud.length ≤ c.cloud.length + 1 := by
        unfold packStep
        split
        · omega
        · split
          · rw [inc_cloud]; omega
          · simp
      simp; omega
  have h1 := h (cpt (l.mergeSort dotLe)) ⟨c0, c1, c2, c3, []⟩
  have h2 := cpt_length (l.mergeSort dotLe)
  rw [List.length_mergeSort] at h2
  unfold packL
  simp at h1
  omega

def joinC (a b : Ctx) : Ctx := packL (max a.c0 b.c0) (max a.c1 b.c1) (max a.c2 b.c2) (max a.c3 b.c3) (a.cloud ++ b.cloud)
theorem join_ok {a b : Ctx} (ha : okC a) (hb : okC b) : okC (joinC a b) ∧ ∀ d, hasB (joinC a b) d = true ↔ hasB a d = true ∨ hasB b d = true := by
  have hclk : clkIn ⟨max a.c0 b.c0, max a.c1 b.c1, max a.c2 b.c2, max a.c3 b.c3, []⟩ := by
    have h1 := ha.1
    have h2 := hb.1
    unfold clkIn at *
    simp only
    omega
  obtain ⟨h1, h2⟩ := pack_ok (l := a.cloud ++ b.cloud) hclk (fun d hd => by
    rcases List.mem_append.1 hd with h | h
    · exact (ha.2.1 d h).1
    · exact (hb.2.1 d h).1)
  refine ⟨h1, fun d => ?_⟩
  rw [joinC, h2, hasB_iff, hasB_iff, hasB_iff, List.mem_append]
  have e : ∀ n, 0 ≤ n → n < 4 → Ctx.at_ ⟨max a.c0 b.c0, max a.c1 b.c1, max a.c2 b.c2, max a.c3 b.c3, []⟩ n = max (a.at_ n) (b.at_ n) := by
    intro n h0 h4
    rcases (by omega : n = 0 ∨ n = 1 ∨ n = 2 ∨ n = 3) with h | h | h | h <;> subst h <;> simp [Ctx.at_]
  constructor
  · rintro ((⟨h1, h2, h3, h4⟩ | h) | h | h)
    · rw [e _ h1 h2] at h4
      by_cases h5 : d.2 ≤ a.at_ d.1
      · exact .inl (.inl ⟨h1, h2, h3, h5⟩)
      · exact .inr (.inl ⟨h1, h2, h3, by omega⟩)
    · simp at h
    · exact .inl (.inr h)
    · exact .inr (.inr h)
  · rintro ((⟨h1, h2, h3, h4⟩ | h) | (⟨h1, h2, h3, h4⟩ | h))
    · exact .inl (.inl ⟨h1, h2, h3, by rw [e _ h1 h2]; omega⟩)
    · exact .inr (.inl h)
    · exact .inl (.inl ⟨h1, h2, h3, by rw [e _ h1 h2]; omega⟩)
    · exact .inr (.inr h)

def lessB (a b : Ctx) : Bool := (decide (a.c0 ≤ b.c0) && decide (a.c1 ≤ b.c1) && decide (a.c2 ≤ b.c2) && decide (a.c3 ≤ b.c3)) && a.cloud.all (fun d => hasB b d)
theorem less_iff {a b : Ctx} (ha : okC a) (hb : okC b) : lessB a b = true ↔ ∀ d, hasB a d = true → hasB b d = true := by
  unfold lessB
  simp only [Bool.and_eq_true, decide_eq_true_eq, List.all_eq_true]
  constructor
  · rintro ⟨⟨⟨⟨h0, h1⟩, h2⟩, h3⟩, hc⟩ d hd
    rcases hasB_iff.1 hd with ⟨p0, p4, p1, p2⟩ | h
    · refine hasB_iff.2 (.inl ⟨p0, p4, p1, Int.le_trans p2 ?_⟩)
      generalize d.1 = n at *
      rcases (by omega : n = 0 ∨ n = 1 ∨ n = 2 ∨ n = 3) with h | h | h | h <;> subst h <;> simp [Ctx.at_] <;> assumption
    · exact hc d h
  · intro h
    have hat : ∀ n, 0 ≤ n → n < 4 → a.at_ n ≤ b.at_ n := by
      intro n h0 h4
      refine Int.le_of_not_gt fun hlt => ?_
      have h1 := (at_in hb.1 n).1
      have h2 : hasB a (n, b.at_ n + 1) = true := hasB_iff.2 (.inl ⟨h0, h4, by simp only; omega, by simp only; omega⟩)
      rcases hasB_iff.1 (h _ h2) with h3 | h3
      · simp only at h3; omega
      · have := (hb.2.1 _ h3).2; simp only at this; omega
    have e0 := hat 0 (by omega) (by omega)
    have e1 := hat 1 (by omega) (by omega)
    have e2 := hat 2 (by omega) (by omega)
    have e3 := hat 3 (by omega) (by omega)
    simp [Ctx.at_] at e0 e1 e2 e3
    exact ⟨⟨⟨⟨e0, e1⟩, e2⟩, e3⟩, fun d hd => h d (hasB_iff.2 (.inr hd))⟩
end Go.Proofs.Ytogegnikpjcpdaa
