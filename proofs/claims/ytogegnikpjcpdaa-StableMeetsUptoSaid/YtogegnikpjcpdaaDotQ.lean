/- viewref.Packed: what it computes is what dot.packed computes. No program in sight. -/
import Derived.Test.YtogegnikpjcpdaaDotP
namespace Go.Proofs.Ytogegnikpjcpdaa
set_option linter.unusedVariables false

def refStep (c : Ctx) (d : Int × Int) : Ctx :=
  if hasB c d = true then c else if d.2 = c.at_ d.1 + 1 then c.inc d.1 else { c with cloud := c.cloud ++ [d] }

theorem before_total (a b : Int × Int) (h1 : before a b = false) (h2 : before b a = false) : a = b := by
  simp [before] at h1 h2
  ext <;> omega
theorem dotLe_trans (a b c : Int × Int) (h1 : dotLe a b = true) (h2 : dotLe b c = true) : dotLe a c = true := by
  simp [dotLe, before] at *
  omega
theorem dotLe_total (a b : Int × Int) : (dotLe a b || dotLe b a) = true := by
  simp [dotLe, before]
  omega
theorem sorted_sort (l : List (Int × Int)) : (l.mergeSort dotLe).Pairwise (fun a b => dotLe a b = true) := List.pairwise_mergeSort dotLe_trans dotLe_total l

theorem sorted_eq {l m : List (Int × Int)} (hp : l.Perm m) (hl : l.Pairwise (fun a b => dotLe a b = true)) (hm : m.Pairwise (fun a b => dotLe a b = true)) : l = m :=
  hp.eq_of_pairwise (le := fun a b => dotLe a b = true) (fun a b _ _ h1 h2 => by
    simp only [dotLe, Bool.not_eq_true'] at h1 h2
    exact (before_total a b h2 h1)) hl hm

theorem sort_min {l : List (Int × Int)} {k : Nat} (hk : k < l.length) (hmin : ∀ x ∈ l, before x l[k] = false) : l.mergeSort dotLe = l[k] :: (l.take k ++ l.drop (k + 1)).mergeSort dotLe := by
  apply sorted_eq
  · refine (List.mergeSort_perm _ _).trans ?_
    have h : l.Perm (l[k] :: (l.take k ++ l.drop (k + 1))) := by
      have e : l = l.take k ++ l[k] :: l.drop (k + 1) := by rw [← List.drop_eq_getElem_cons hk, List.take_append_drop]
      conv => lhs; rw [e]
      exact List.perm_middle
    exact h.trans ((List.mergeSort_perm _ _).symm.cons _)
  · exact sorted_sort l
  · refine List.pairwise_cons.2 ⟨fun x hx => ?_, sorted_sort _⟩
    have hx2 : x ∈ l := by
      have := (List.mem_mergeSort.1 hx)
      rcases List.mem_append.1 this with h | h
      · exact List.mem_of_mem_take h
      · exact List.mem_of_mem_drop h
    simp [dotLe, hmin x hx2]

theorem has_inc {c : Ctx} {n : Int} (h0 : 0 ≤ n) (h4 : n < 4) : (c.inc n).at_ n = c.at_ n + 1 := by
  rcases (by omega : n = 0 ∨ n = 1 ∨ n = 2 ∨ n = 3) with h | h | h | h <;> subst h <;> simp [Ctx.inc, Ctx.at_]

theorem refStep_has {c : Ctx} {d : Int × Int} (hd : rightB d.1 d.2 = true) : hasB (refStep c d) d = true := by
  have hR : 0 ≤ d.1 ∧ d.1 < 4 ∧ 1 ≤ d.2 ∧ d.2 ≤ 1099511627776 := by simpa [rightB, and_assoc] using hd
  unfold refStep
  split
  · assumption
  · split
    · rename_i h
      rw [hasB, decide_eq_true_eq]
      exact Or.inl ⟨hR.1, hR.2.1, hR.2.2.1, by rw [has_inc hR.1 hR.2.1]; omega⟩
    · simp [hasB, Ctx.has]

theorem refStep_same {c : Ctx} {d : Int × Int} (h : hasB c d = true) : refStep c d = c := by simp [refStep, h]

theorem ref_pack {c : Ctx} {d : Int × Int} (hd : rightB d.1 d.2 = true) (hn : d ∉ c.cloud) : refStep c d = packStep c d := by
  have hR : 0 ≤ d.1 ∧ d.1 < 4 ∧ 1 ≤ d.2 ∧ d.2 ≤ 1099511627776 := by simpa [rightB, and_assoc] using hd
  unfold refStep packStep
  by_cases h : d.2 ≤ c.at_ d.1
  · rw [if_pos (by simp [hasB, Ctx.has, h, hR]), if_pos h]
  · rw [if_neg (by simp [hasB, Ctx.has, hn]; omega), if_neg h]

theorem pack_cloud {c : Ctx} {d x : Int × Int} (h : x ∈ (packStep c d).cloud) : x ∈ c.cloud ∨ x = d := by
  unfold packStep at h
  split at h
  · exact .inl h
  · split at h
    · rw [inc_cloud] at h; exact .inl h
    · simpa using h

theorem ref_fold : ∀ (l : List (Int × Int)) (c : Ctx), l.Pairwise (fun a b => dotLe a b = true) → (∀ d ∈ l, rightB d.1 d.2 = true) → (∀ x ∈ c.cloud, ∀ d ∈ l, before x d = true) → l.foldl refStep c = (cpt l).foldl packStep c
  | [], c, _, _, _ => rfl
  | [a], c, _, hr, hc => by
    simp only [cpt, List.foldl_cons, List.foldl_nil]
    exact ref_pack (hr a (by simp)) fun h => by have := hc a h a (by simp); simp [before] at this
  | a :: b :: r, c, hs, hr, hc => by
    have hs2 := (List.pairwise_cons.1 hs).2
    have hna : a ∉ c.cloud := fun h => by have := hc a h a (by simp); simp [before] at this
    rw [cpt]
    split
    · rename_i e
      subst e
      rw [← ref_fold (a :: r) c hs2 (fun d hd => hr d (List.mem_cons_of_mem _ hd)) (fun x hx d hd => hc x hx d (List.mem_cons_of_mem _ hd))]
      simp only [List.foldl_cons]
      rw [refStep_same (c := refStep c a) (refStep_has (hr a (by simp)))]
    · rename_i e
      rw [List.foldl_cons, List.foldl_cons, ref_pack (hr a (by simp)) hna]
      refine ref_fold (b :: r) _ hs2 (fun d hd => hr d (List.mem_cons_of_mem _ hd)) fun x hx d hd => ?_
      rcases pack_cloud hx with h | h
      · exact hc x h d (List.mem_cons_of_mem _ hd)
      · subst h
        have h1 := (List.pairwise_cons.1 hs).1 b (by simp)
        have h2 : dotLe b d = true := by
          rcases List.mem_cons.1 hd with h | h
          · subst h; simp [dotLe, before]
          · exact (List.pairwise_cons.1 hs2).1 d h
        have h3 : before x b = true := by
          cases hq : before x b
          · simp only [dotLe, Bool.not_eq_true'] at h1
            exact absurd (before_total x b hq h1) e
          · rfl
        simp [dotLe, before] at h2 h3 ⊢
        omega

/-- The selection's order and the sort's give one context. -/
theorem ref_packL (c0 c1 c2 c3 : Int) (l : List (Int × Int)) (hr : ∀ d ∈ l, rightB d.1 d.2 = true) : (l.mergeSort dotLe).foldl refStep ⟨c0, c1, c2, c3, []⟩ = packL c0 c1 c2 c3 l :=
  ref_fold _ _ (sorted_sort l) (fun d hd => hr d (List.mem_mergeSort.1 hd)) (fun x hx => by simp at hx)
end Go.Proofs.Ytogegnikpjcpdaa
