/- Miss -/
import Derived.Test.YtogegnikpjcpdaaTableSaysG05
/- Minus and Missing, and when one context is less than another: plain lists. No program in sight. -/
namespace Go.Proofs.Ytogegnikpjcpdaa
set_option linter.unusedVariables false

def clkDots (a b : Ctx) (n : Int) (k : Nat) : List (Int × Int) := ((List.range k).map (fun (j : Nat) => (n, b.at_ n + 1 + (j : Int)))).filter (fun d => !hasB b d)
def clkMiss (a b : Ctx) (n : Int) : List (Int × Int) := clkDots a b n (a.at_ n - b.at_ n).toNat
def cldMiss (a b : Ctx) (n : Int) : List (Int × Int) := a.cloud.filter (fun d => decide (d.1 = n) && !hasB b d)
def cldAll (a b : Ctx) : List (Int × Int) := a.cloud.filter (fun d => !hasB b d)
def clkAll (a b : Ctx) : List (Int × Int) := clkMiss a b 0 ++ clkMiss a b 1 ++ clkMiss a b 2 ++ clkMiss a b 3
def missL (a b : Ctx) : List (Int × Int) := (clkMiss a b 0 ++ cldMiss a b 0) ++ (clkMiss a b 1 ++ cldMiss a b 1) ++ (clkMiss a b 2 ++ cldMiss a b 2) ++ (clkMiss a b 3 ++ cldMiss a b 3)
def missStep (a b : Ctx) (out : List (Int × Int)) (n : Int) : List (Int × Int) := out ++ (clkMiss a b n).take (401 - out.length) ++ cldMiss a b n
def missR (a b : Ctx) : List (Int × Int) := missStep a b (missStep a b (missStep a b (missStep a b [] 0) 1) 2) 3

theorem clkDots_succ (a b : Ctx) (n : Int) (k : Nat) : clkDots a b n (k + 1) = clkDots a b n k ++ (if hasB b (n, b.at_ n + 1 + (k : Int)) = true then [] else [(n, b.at_ n + 1 + (k : Int))]) := by
  unfold clkDots
  rw [List.range_succ, List.map_append, List.filter_append]
  congr 1
  simp only [List.map_cons, List.map_nil, List.filter_cons, List.filter_nil]
  cases hasB b (n, b.at_ n + 1 + (k : Int)) <;> rfl

theorem clkDots_mem {a b : Ctx} {n : Int} {k : Nat} {d : Int × Int} : d ∈ clkDots a b n k ↔ d.1 = n ∧ b.at_ n + 1 ≤ d.2 ∧ d.2 ≤ b.at_ n + k ∧ hasB b d = false := by
  unfold clkDots
  simp only [List.mem_filter, List.mem_map, List.mem_range, Bool.not_eq_true']
  constructor
  · rintro ⟨⟨j, hj, rfl⟩, h⟩
    exact ⟨rfl, by simp only; omega, by simp only; omega, h⟩
  · rintro ⟨h1, h2, h3, h4⟩
    refine ⟨⟨(d.2 - (b.at_ n + 1)).toNat, by omega, ?_⟩, h4⟩
    obtain ⟨d1, d2⟩ := d
    simp only at *
    subst h1
    congr 1
    omega

theorem clkMiss_mem {a b : Ctx} {n : Int} {d : Int × Int} : d ∈ clkMiss a b n ↔ d.1 = n ∧ b.at_ n + 1 ≤ d.2 ∧ d.2 ≤ a.at_ n ∧ hasB b d = false := by
  unfold clkMiss
  rw [clkDots_mem]
  constructor
  · rintro ⟨h1, h2, h3, h4⟩; exact ⟨h1, h2, by omega, h4⟩
  · rintro ⟨h1, h2, h3, h4⟩; exact ⟨h1, h2, by omega, h4⟩

theorem clkDots_sorted (a b : Ctx) (n : Int) : ∀ k, (clkDots a b n k).Pairwise (fun x y => before x y = true)
  | 0 => by simp [clkDots]
  | k + 1 => by
    rw [clkDots_succ]
    refine List.pairwise_append.2 ⟨clkDots_sorted a b n k, by split <;> simp, fun x hx y hy => ?_⟩
    have h1 := clkDots_mem.1 hx
    split at hy
    · simp at hy
    · simp only [List.mem_singleton] at hy
      subst hy
      rw [before_iff]
      simp only
      omega

theorem node_sorted {a b : Ctx} (ha : okC a) (n : Int) : (clkMiss a b n ++ cldMiss a b n).Pairwise (fun x y => before x y = true) := by
  refine List.pairwise_append.2 ⟨clkDots_sorted a b n _, ha.2.2.filter _, fun x hx y hy => ?_⟩
  have h1 := clkMiss_mem.1 hx
  simp only [cldMiss, List.mem_filter, Bool.and_eq_true, decide_eq_true_eq] at hy
  have h2 := (ha.2.1 y hy.1).2
  rw [hy.2.1] at h2
  rw [before_iff]
  omega
theorem node_mem {a b : Ctx} {n : Int} {d : Int × Int} (h : d ∈ clkMiss a b n ++ cldMiss a b n) : d.1 = n := by
  rcases List.mem_append.1 h with h | h
  · exact (clkMiss_mem.1 h).1
  · simp only [cldMiss, List.mem_filter, Bool.and_eq_true, decide_eq_true_eq] at h
    exact h.2.1

theorem missL_sorted {a b : Ctx} (ha : okC a) : (missL a b).Pairwise (fun x y => before x y = true) := by
  unfold missL
  have hs := fun n => node_sorted (b := b) ha n
  have hm := fun n d => node_mem (a := a) (b := b) (n := n) (d := d)
  refine List.pairwise_append.2 ⟨List.pairwise_append.2 ⟨List.pairwise_append.2 ⟨hs 0, hs 1, ?_⟩, hs 2, ?_⟩, hs 3, ?_⟩ <;> intro x hx y hy <;> rw [before_iff] <;> left
  · rw [hm _ _ hx, hm _ _ hy]; omega
  · rw [hm _ _ hy]
    rcases List.mem_append.1 hx with h | h <;> rw [hm _ _ h] <;> omega
  · rw [hm _ _ hy]
    rcases List.mem_append.1 hx with h | h
    · rcases List.mem_append.1 h with h | h <;> rw [hm _ _ h] <;> omega
    · rw [hm _ _ h]; omega

theorem strict_le {l : List (Int × Int)} (h : l.Pairwise (fun x y => before x y = true)) : l.Pairwise (fun x y => dotLe x y = true) := h.imp fun {x y} hxy => by
  simp only [dotLe, Bool.not_eq_true']
  cases hq : before y x with
  | false => rfl
  | true => rw [before_iff] at *; omega

theorem part_perm (f : Int × Int → Bool) : ∀ (l : List (Int × Int)), (∀ d ∈ l, 0 ≤ d.1 ∧ d.1 < 4) → (l.filter f).Perm (l.filter (fun d => decide (d.1 = 0) && f d) ++ l.filter (fun d => decide (d.1 = 1) && f d) ++ l.filter (fun d => decide (d.1 = 2) && f d) ++ l.filter (fun d => decide (d.1 = 3) && f d))
  | [], _ => by simp
  | d :: l, h => by
    have ih := part_perm f l (fun x hx => h x (by simp [hx]))
    have hd := h d (by simp)
    cases hf : f d with
    | false => simpa [List.filter_cons, hf] using ih
    | true =>
      rcases (by omega : d.1 = 0 ∨ d.1 = 1 ∨ d.1 = 2 ∨ d.1 = 3) with e | e | e | e
      all_goals simp only [List.filter_cons, hf, e, Bool.and_true, if_true, decide_true, decide_false, Bool.false_eq_true, if_false]
      all_goals simp only [show decide ((0 : Int) = 1) = false from rfl, show decide ((0 : Int) = 2) = false from rfl, show decide ((0 : Int) = 3) = false from rfl, show decide ((1 : Int) = 0) = false from rfl, show decide ((1 : Int) = 2) = false from rfl, show decide ((1 : Int) = 3) = false from rfl, show decide ((2 : Int) = 0) = false from rfl, show decide ((2 : Int) = 1) = false from rfl, show decide ((2 : Int) = 3) = false from rfl, show decide ((3 : Int) = 0) = false from rfl, show decide ((3 : Int) = 1) = false from rfl, show decide ((3 : Int) = 2) = false from rfl, Bool.false_eq_true, if_false]
      · exact ih.cons d
      · refine (ih.cons d).trans ?_
        simp only [List.append_assoc, List.cons_append]
        exact List.perm_middle.symm
      · refine (ih.cons d).trans ?_
        simp only [List.append_assoc, List.cons_append]
        refine List.Perm.trans ?_ (List.Perm.append_left _ List.perm_middle.symm)
        exact List.perm_middle.symm
      · refine (ih.cons d).trans ?_
        exact List.perm_middle.symm

theorem swap4 {α : Type} (a b c d e f g h : List α) : ((a ++ b ++ c ++ d) ++ (e ++ f ++ g ++ h)).Perm ((a ++ e) ++ (b ++ f) ++ (c ++ g) ++ (d ++ h)) := by
  classical
  have : ∀ x y z w : List α, ((x ++ y) ++ (z ++ w)).Perm ((x ++ z) ++ (y ++ w)) := fun x y z w => by
    simp only [List.append_assoc]
    exact (List.perm_append_comm_assoc y z w).append_left x
  refine (this _ _ _ _).trans (List.Perm.append_right _ ?_)
  refine (this _ _ _ _).trans (List.Perm.append_right _ ?_)
  exact this _ _ _ _

theorem all_perm {a b : Ctx} (ha : okC a) : (clkAll a b ++ cldAll a b).Perm (missL a b) := by
  have h := part_perm (fun d => !hasB b d) a.cloud (fun d hd => by have := right_iff.1 (ha.2.1 d hd).1; exact ⟨this.1, this.2.1⟩)
  exact (h.append_left (clkAll a b)).trans (swap4 _ _ _ _ _ _ _ _)

theorem minus_eq {a b : Ctx} (ha : okC a) : (clkAll a b ++ cldAll a b).mergeSort dotLe = missL a b :=
  sorted_eq ((List.mergeSort_perm _ _).trans (all_perm ha)) (sorted_sort _) (strict_le (missL_sorted ha))

theorem step_eq (a b : Ctx) (out : List (Int × Int)) (n : Int) (h : (out ++ (clkMiss a b n ++ cldMiss a b n)).length ≤ 400) : missStep a b out n = out ++ (clkMiss a b n ++ cldMiss a b n) := by
  unfold missStep
  simp only [List.length_append] at h
  rw [List.take_of_length_le (by omega), List.append_assoc]
theorem step_le (a b : Ctx) (out : List (Int × Int)) (n : Int) : out.length ≤ (missStep a b out n).length := by unfold missStep; simp only [List.length_append]; omega
theorem step_big (a b : Ctx) (out : List (Int × Int)) (n : Int) (h : 400 < (out ++ (clkMiss a b n ++ cldMiss a b n)).length) : 400 < (missStep a b out n).length := by
  unfold missStep
  simp only [List.length_append, List.length_take] at *
  omega

theorem missR_eq (a b : Ctx) (h : (missL a b).length ≤ 400) : missR a b = missL a b := by
  unfold missL at *
  unfold missR
  simp only [List.length_append] at h
  have e0 := step_eq a b [] 0 (by simp only [List.length_append, List.nil_append]; omega)
  simp only [List.nil_append] at e0
  rw [e0, step_eq _ _ _ 1 (by simp only [List.length_append]; omega), step_eq _ _ _ 2 (by simp only [List.length_append]; omega), step_eq _ _ _ 3 (by simp only [List.length_append]; omega)]

theorem missR_big (a b : Ctx) (h : 400 < (missL a b).length) : 400 < (missR a b).length := by
  unfold missR
  have l1 := step_le a b (missStep a b [] 0) 1
  have l2 := step_le a b (missStep a b (missStep a b [] 0) 1) 2
  have l3 := step_le a b (missStep a b (missStep a b (missStep a b [] 0) 1) 2) 3
  have s : ∀ out n, 400 < (missStep a b out n).length ∨ (missStep a b out n = out ++ (clkMiss a b n ++ cldMiss a b n)) := fun out n => by
    by_cases h0 : 400 < (out ++ (clkMiss a b n ++ cldMiss a b n)).length
    · exact .inl (step_big a b out n h0)
    · exact .inr (step_eq a b out n (by omega))
  rcases s [] 0 with h0 | e0
  · omega
  rcases s (missStep a b [] 0) 1 with h1 | e1
  · omega
  rcases s (missStep a b (missStep a b [] 0) 1) 2 with h2 | e2
  · omega
  rcases s (missStep a b (missStep a b (missStep a b [] 0) 1) 2) 3 with h3 | e3
  · omega
  rw [e3, e2, e1, e0]
  exact h

theorem missL_mem {a b : Ctx} {d : Int × Int} (hd : 0 ≤ d.1 ∧ d.1 < 4 ∧ 1 ≤ d.2) (hb : clkIn b) : d ∈ missL a b ↔ hasB a d = true ∧ hasB b d = false := by
  have one : ∀ n, d ∈ clkMiss a b n ++ cldMiss a b n ↔ d.1 = n ∧ hasB b d = false ∧ ((b.at_ n + 1 ≤ d.2 ∧ d.2 ≤ a.at_ n) ∨ d ∈ a.cloud) := by
    intro n
    rw [List.mem_append, clkMiss_mem]
    simp only [cldMiss, List.mem_filter, Bool.and_eq_true, decide_eq_true_eq, Bool.not_eq_true']
    constructor
    · rintro (⟨h1, h2, h3, h4⟩ | ⟨h1, h2, h3⟩)
      · exact ⟨h1, h4, .inl ⟨h2, h3⟩⟩
      · exact ⟨h2, h3, .inr h1⟩
    · rintro ⟨h1, h2, (⟨h3, h4⟩ | h3)⟩
      · exact .inl ⟨h1, h3, h4, h2⟩
      · exact .inr ⟨h3, h1, h2⟩
  have key : ∀ n, d.1 = n → ((b.at_ n + 1 ≤ d.2 ∧ d.2 ≤ a.at_ n) ∨ d ∈ a.cloud) → hasB b d = false → hasB a d = true := by
    intro n e h _
    rw [hasB_iff]
    rcases h with ⟨h1, h2⟩ | h
    · exact .inl ⟨hd.1, hd.2.1, hd.2.2, by rw [e]; exact h2⟩
    · exact .inr h
  have key2 : hasB a d = true → hasB b d = false → ((b.at_ d.1 + 1 ≤ d.2 ∧ d.2 ≤ a.at_ d.1) ∨ d ∈ a.cloud) := by
    intro h h2
    rcases hasB_iff.1 h with ⟨_, _, _, h3⟩ | h3
    · refine .inl ⟨?_, h3⟩
      refine Int.le_of_not_gt fun hlt => ?_
      have : hasB b d = true := hasB_iff.2 (.inl ⟨hd.1, hd.2.1, hd.2.2, by omega⟩)
      rw [this] at h2; cases h2
    · exact .inr h3
  unfold missL
  rw [List.mem_append, List.mem_append, List.mem_append, one, one, one, one]
  constructor
  · rintro (((⟨h1, h2, h3⟩ | ⟨h1, h2, h3⟩) | ⟨h1, h2, h3⟩) | ⟨h1, h2, h3⟩) <;> exact ⟨key _ h1 h3 h2, h2⟩
  · rintro ⟨h1, h2⟩
    have h3 := key2 h1 h2
    rcases (by omega : d.1 = 0 ∨ d.1 = 1 ∨ d.1 = 2 ∨ d.1 = 3) with e | e | e | e <;> rw [e] at h3
    · exact .inl (.inl (.inl ⟨e, h2, h3⟩))
    · exact .inl (.inl (.inr ⟨e, h2, h3⟩))
    · exact .inl (.inr ⟨e, h2, h3⟩)
    · exact .inr ⟨e, h2, h3⟩

theorem missL_right {a b : Ctx} (ha : okC a) (hb : clkIn b) {d : Int × Int} (h : d ∈ missL a b) : rightB d.1 d.2 = true := by
  have one : ∀ n, 0 ≤ n → n < 4 → d ∈ clkMiss a b n ++ cldMiss a b n → rightB d.1 d.2 = true := by
    intro n h0 h4 h
    rcases List.mem_append.1 h with h | h
    · have h1 := clkMiss_mem.1 h
      have h2 := at_in ha.1 n
      have h3 := at_in hb n
      rw [right_iff]; omega
    · simp only [cldMiss, List.mem_filter] at h
      exact (ha.2.1 d h.1).1
  unfold missL at h
  rcases List.mem_append.1 h with h | h
  · rcases List.mem_append.1 h with h | h
    · rcases List.mem_append.1 h with h | h
      · exact one 0 (by omega) (by omega) h
      · exact one 1 (by omega) (by omega) h
    · exact one 2 (by omega) (by omega) h
  · exact one 3 (by omega) (by omega) h

theorem less_miss {a b : Ctx} (ha : okC a) (hb : okC b) : lessB a b = decide (missL a b = []) := by
  rw [Bool.eq_iff_iff, less_iff ha hb, decide_eq_true_eq]
  constructor
  · intro h
    refine List.eq_nil_iff_forall_not_mem.2 fun d hd => ?_
    have hr := right_iff.1 (missL_right ha hb.1 hd)
    have h2 := (missL_mem ⟨hr.1, hr.2.1, hr.2.2.1⟩ hb.1).1 hd
    rw [h d h2.1] at h2
    cases h2.2
  · intro h d hd
    cases hq : hasB b d with
    | true => rfl
    | false =>
      have hr : 0 ≤ d.1 ∧ d.1 < 4 ∧ 1 ≤ d.2 := by
        rcases hasB_iff.1 hd with h1 | h1
        · exact ⟨h1.1, h1.2.1, h1.2.2.1⟩
        · have := right_iff.1 (ha.2.1 d h1).1; exact ⟨this.1, this.2.1, this.2.2.1⟩
      have := (missL_mem hr hb.1).2 ⟨hd, hq⟩
      rw [h] at this; cases this
end Go.Proofs.Ytogegnikpjcpdaa
