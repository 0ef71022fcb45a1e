/- ZsP, Itm, OpenB, OpenI, SetP, ZsR, ZsO, ZsW -/
import Derived.Test.YtldlmkfigjicgaaGreatDoorIncPlaysCardS01
import Derived.IntWalk
import Derived.Test.YtldlmkfigjicgaaGreatDoorRows
import Derived.Shelf.SlSortCmp.KitK
import Derived.Deep.Slices
import Derived.JoinedCond
/- Sets with weights: the plain law of zset.Sum (grouping what is sorted), by weights. No program in sight. -/
namespace Go.Proofs.YtldlmkfigjicgaaGreatDoor
set_option linter.unusedVariables false
set_option linter.unusedSectionVars false
open Go.Sort

/-! rows in order -/
def cmpL : List Int → List Int → Int
  | [], [] => 0
  | [], _ :: _ => -1
  | _ :: _, [] => 1
  | a :: x, b :: y => if a < b then -1 else if b < a then 1 else cmpL x y
theorem cmpL_range : ∀ a b, cmpL a b = -1 ∨ cmpL a b = 0 ∨ cmpL a b = 1
  | [], [] => .inr (.inl rfl)
  | [], _ :: _ => .inl rfl
  | _ :: _, [] => .inr (.inr rfl)
  | a :: x, b :: y => by
    unfold cmpL
    split
    · exact .inl rfl
    · split
      · exact .inr (.inr rfl)
      · exact cmpL_range x y
theorem cmpL_self : ∀ a, cmpL a a = 0
  | [] => rfl
  | a :: x => by unfold cmpL; rw [if_neg (by omega), if_neg (by omega)]; exact cmpL_self x
theorem cmpL_eq : ∀ a b, cmpL a b = 0 → a = b
  | [], [], _ => rfl
  | [], _ :: _, h => by simp [cmpL] at h
  | _ :: _, [], h => by simp [cmpL] at h
  | a :: x, b :: y, h => by
    unfold cmpL at h
    split at h
    · omega
    · split at h
      · omega
      · rw [cmpL_eq x y h, show a = b by omega]
theorem cmpL_neg : ∀ a b, cmpL b a = - cmpL a b
  | [], [] => rfl
  | [], _ :: _ => rfl
  | _ :: _, [] => rfl
  | a :: x, b :: y => by
    unfold cmpL
    by_cases h1 : a < b
    · rw [if_neg (by omega), if_pos h1, if_pos h1]; rfl
    · by_cases h2 : b < a
      · rw [if_pos h2, if_neg h1, if_pos h2]
      · rw [if_neg h2, if_neg h1, if_neg h1, if_neg h2]; exact cmpL_neg x y
theorem cmpL_trans : ∀ a b c, cmpL a b ≤ 0 → cmpL b c ≤ 0 → cmpL a c ≤ 0 ∧ (cmpL a c = 0 → cmpL a b = 0 ∧ cmpL b c = 0)
  | [], [], c, h1, h2 => ⟨h2, fun h => ⟨rfl, h⟩⟩
  | [], b :: y, [], h1, h2 => by simp [cmpL] at h2
  | [], b :: y, c :: z, h1, h2 => ⟨by simp [cmpL], fun h => by simp [cmpL] at h⟩
  | a :: x, [], c, h1, h2 => by simp [cmpL] at h1
  | a :: x, b :: y, [], h1, h2 => by simp [cmpL] at h2
  | a :: x, b :: y, c :: z, h1, h2 => by
    unfold cmpL at h1 h2 ⊢
    by_cases e1 : a < b
    · by_cases e2 : b < c
      · rw [if_pos (by omega)]; exact ⟨by omega, fun h => by omega⟩
      · by_cases e3 : c < b
        · rw [if_neg e2, if_pos e3] at h2; omega
        · rw [if_pos (by omega)]; exact ⟨by omega, fun h => by omega⟩
    · by_cases e1' : b < a
      · rw [if_neg e1, if_pos e1'] at h1; omega
      · rw [if_neg e1, if_neg e1'] at h1
        have : a = b := by omega
        subst this
        by_cases e2 : a < c
        · rw [if_pos e2]; exact ⟨by omega, fun h => by omega⟩
        · by_cases e3 : c < a
          · rw [if_neg e2, if_pos e3] at h2; omega
          · rw [if_neg e2, if_neg e3] at h2
            rw [if_neg e2, if_neg e3, if_neg (by omega), if_neg (by omega)]
            have := cmpL_trans x y z h1 h2
            rw [if_neg e2, if_neg e3]
            exact this
theorem cmpL_lt_le {a b c : List Int} (h1 : cmpL a b < 0) (h2 : cmpL b c ≤ 0) : cmpL a c < 0 := by
  have := cmpL_trans a b c (by omega) h2
  omega
theorem cmpL_le_lt {a b c : List Int} (h1 : cmpL a b ≤ 0) (h2 : cmpL b c < 0) : cmpL a c < 0 := by
  have := cmpL_trans a b c h1 (by omega)
  omega

/-- An item: its row, how many times. -/
abbrev It := List Int × Int
abbrev itLt (x y : It) : Bool := decide (cmpL x.1 y.1 < 0)
theorem swo_it : SWO itLt where
  irrefl x := by simp [itLt, cmpL_self]
  trans x y z h1 h2 := by
    simp only [itLt, decide_eq_true_eq] at *
    exact cmpL_lt_le h1 (by omega)
  ntrans x y z h1 h2 := by
    simp only [itLt, decide_eq_false_iff_not] at *
    have a1 := cmpL_neg x.1 y.1
    have a2 := cmpL_neg y.1 z.1
    have a3 := cmpL_neg x.1 z.1
    have := (cmpL_trans z.1 y.1 x.1 (by omega) (by omega)).1
    omega

/-! weights -/
abbrev wrp (n : Int) : Int := IntKind.i64.wrap n
theorem wrp_add (a b : Int) : wrp (wrp a + b) = wrp (a + b) := by simp only [wrp, IntKind.wrap_i64]; omega
theorem wrp_add' (a b : Int) : wrp (a + wrp b) = wrp (a + b) := by simp only [wrp, IntKind.wrap_i64]; omega
theorem wrp_wrp (a : Int) : wrp (wrp a) = wrp a := by simp only [wrp, IntKind.wrap_i64]; omega
theorem wrp_in (a : Int) : -9223372036854775808 ≤ wrp a ∧ wrp a ≤ 9223372036854775807 := by simp only [wrp, IntKind.wrap_i64]; omega
theorem wrp_id {a : Int} (h : -9223372036854775808 ≤ a ∧ a ≤ 9223372036854775807) : wrp a = a := IntWalk.i64_in a h
/-- How many times a row is in a list, in all. -/
def tot (r : List Int) : List It → Int
  | [] => 0
  | x :: l => (if x.1 = r then x.2 else 0) + tot r l
abbrev wt (l : List It) (r : List Int) : Int := wrp (tot r l)
theorem tot_app (r : List Int) : ∀ a b, tot r (a ++ b) = tot r a + tot r b
  | [], b => by simp [tot]
  | x :: a, b => by simp only [List.cons_append, tot, tot_app r a b]; omega
theorem tot_perm {r : List Int} {a b : List It} (h : a.Perm b) : tot r a = tot r b := by
  induction h with
  | nil => rfl
  | cons x _ ih => simp only [tot, ih]
  | swap x y l => simp only [tot]; omega
  | trans _ _ h1 h2 => exact h1.trans h2
theorem tot_none {r : List Int} : ∀ {l : List It}, (∀ x ∈ l, x.1 ≠ r) → tot r l = 0
  | [], _ => rfl
  | x :: l, h => by
    rw [tot, if_neg (h x (by simp)), tot_none fun y hy => h y (by simp [hy])]; omega
/-- Rising rows, no weight of 0, each in its bounds. -/
def Strict : List It → Prop
  | [] => True
  | x :: l => x.2 ≠ 0 ∧ wrp x.2 = x.2 ∧ (∀ y ∈ l, cmpL x.1 y.1 < 0) ∧ Strict l
theorem Strict.tail {x : It} {l : List It} (h : Strict (x :: l)) : Strict l := h.2.2.2
theorem strict_wt {x : It} {l : List It} (h : Strict (x :: l)) : wt (x :: l) x.1 = x.2 := by
  have e : tot x.1 l = 0 := tot_none fun y hy e => by
    have := h.2.2.1 y hy
    rw [e, cmpL_self] at this; omega
  unfold wt
  rw [tot, if_pos rfl, e, Int.add_zero]
  exact h.2.1
theorem strict_wt_lt {l : List It} {r : List Int} (h : ∀ y ∈ l, cmpL r y.1 < 0) : wt l r = 0 := by
  unfold wt
  rw [tot_none fun y hy e => by
    have := h y hy
    rw [e, cmpL_self] at this; omega]
  rfl
theorem strict_wt_tail {x : It} {l : List It} (h : Strict (x :: l)) {r : List Int} : wt l r = if r = x.1 then 0 else wt (x :: l) r := by
  by_cases e : r = x.1
  · rw [if_pos e, e]
    exact strict_wt_lt h.2.2.1
  · rw [if_neg e]
    unfold wt
    rw [tot, if_neg (Ne.symm e), Int.zero_add]
/-- Lists that are rising, with the same weights, are the same. -/
theorem strict_ext : ∀ {a b : List It}, Strict a → Strict b → (∀ r, wt a r = wt b r) → a = b
  | [], [], _, _, _ => rfl
  | [], y :: b, _, hb, h => by
    have := h y.1
    rw [strict_wt hb] at this
    exact absurd this.symm hb.1
  | x :: a, [], ha, _, h => by
    have := h x.1
    rw [strict_wt ha] at this
    exact absurd this ha.1
  | x :: a, y :: b, ha, hb, h => by
    have hxy : cmpL x.1 y.1 = 0 := by
      rcases cmpL_range x.1 y.1 with e | e | e
      · have h1 := h x.1
        rw [strict_wt ha, strict_wt_lt (fun z hz => by
          rcases List.mem_cons.1 hz with e1 | e1
          · rw [e1]; omega
          · exact cmpL_lt_le (by omega) (Int.le_of_lt (hb.2.2.1 z e1)))] at h1
        exact absurd h1 ha.1
      · exact e
      · have h1 := h y.1
        have := cmpL_neg x.1 y.1
        rw [strict_wt hb, strict_wt_lt (fun z hz => by
          rcases List.mem_cons.1 hz with e1 | e1
          · rw [e1]; omega
          · exact cmpL_lt_le (by omega) (Int.le_of_lt (ha.2.2.1 z e1)))] at h1
        exact absurd h1.symm hb.1
    have e1 := cmpL_eq _ _ hxy
    have e2 : x.2 = y.2 := by
      have := h x.1
      rw [strict_wt ha, e1, strict_wt hb] at this
      exact this
    have e3 : x = y := Prod.ext e1 e2
    subst e3
    rw [strict_ext ha.tail hb.tail fun r => by rw [strict_wt_tail ha, strict_wt_tail hb, h r]]
theorem strict_app {a b : List It} (ha : Strict a) (hb : Strict b) (h : ∀ x ∈ a, ∀ y ∈ b, cmpL x.1 y.1 < 0) : Strict (a ++ b) := by
  induction a with
  | nil => exact hb
  | cons x a ih =>
    refine ⟨ha.1, ha.2.1, fun y hy => ?_, ih ha.tail fun z hz => h z (by simp [hz])⟩
    rcases List.mem_append.1 hy with e | e
    · exact ha.2.2.1 y e
    · exact h x (by simp) y e
/-- What zset.Sum has told of the first k items of a sorted list: rising; of each row of the first k its weight. -/
def Summed (L : List It) (k : Nat) (S : List It) : Prop := Strict S ∧ (∀ r, wt S r = wt (L.take k) r) ∧ ∀ x ∈ S, ∀ i, (hi : i < L.length) → k ≤ i → cmpL x.1 L[i].1 < 0
theorem summed_nil (L : List It) : Summed L 0 [] := ⟨trivial, fun r => rfl, fun x hx => by simp at hx⟩
/-- The rows of a list rise. -/
def Rising (L : List It) : Prop := ∀ i j, (hi : i < L.length) → (hj : j < L.length) → i < j → cmpL L[i].1 L[j].1 ≤ 0
theorem tot_take_succ (r : List Int) (L : List It) {k : Nat} (hk : k < L.length) : tot r (L.take (k + 1)) = tot r (L.take k) + (if L[k].1 = r then L[k].2 else 0) := by
  rw [List.take_succ_eq_append_getElem hk, tot_app]; simp [tot]
/-- A group: items k .. j of one row. -/
def InGroup (L : List It) (k j : Nat) (r : List Int) : Prop := ∀ i, (hi : i < L.length) → k ≤ i → i < j → L[i].1 = r
def grpSum (L : List It) (k : Nat) : Nat → Int
  | 0 => 0
  | n + 1 => wrp (grpSum L k n + (L[k + n]?.map (·.2)).getD 0)
theorem grp_tot {L : List It} {k : Nat} {r : List Int} : ∀ n, k + n ≤ L.length → InGroup L k (k + n) r → wrp (tot r (L.take (k + n))) = wrp (tot r (L.take k) + grpSum L k n) ∧ ∀ q, q ≠ r → tot q (L.take (k + n)) = tot q (L.take k)
  | 0, h, _ => ⟨by simp [grpSum], fun q _ => rfl⟩
  | n + 1, h, hg => by
    obtain ⟨i1, i2⟩ := grp_tot n (by omega) (fun i hi h1 h2 => hg i hi h1 (by omega))
    have hk : k + n < L.length := by omega
    have hr := hg (k + n) hk (by omega) (by omega)
    refine ⟨?_, fun q hq => ?_⟩
    · rw [← Nat.add_assoc, tot_take_succ r L hk, if_pos hr, grpSum, List.getElem?_eq_getElem hk, Option.map_some, Option.getD_some, wrp_add', ← wrp_add, i1, wrp_add]
      congr 1; omega
    · rw [← Nat.add_assoc, tot_take_succ q L hk, if_neg (by rw [hr]; exact Ne.symm hq), i2 q hq]; omega
theorem summed_step {L : List It} (hR : Rising L) {k n : Nat} {S : List It} (hS : Summed L k S) (hn : 0 < n) (hl : k + n ≤ L.length) (r : List Int) (hg : InGroup L k (k + n) r) (ho : ∀ h : k + n < L.length, L[k + n].1 ≠ r) :
    Summed L (k + n) (if grpSum L k n = 0 then S else S ++ [(r, grpSum L k n)]) := by
  obtain ⟨g1, g2⟩ := grp_tot n hl hg
  have hk : k < L.length := by omega
  have hr : L[k].1 = r := hg k hk (Nat.le_refl _) (by omega)
  have h0 : tot r (L.take k) = tot r (L.take k) := rfl
  have hnone : ∀ x ∈ S, cmpL x.1 r < 0 := fun x hx => by rw [← hr]; exact hS.2.2 x hx k hk (Nat.le_refl _)
  have hw0 : wt (L.take k) r = 0 := by
    rw [← hS.2.1 r]
    unfold wt
    rw [tot_none fun y hy e => by
      have := hnone y hy
      rw [e, cmpL_self] at this; omega]
    rfl
  have hin : wrp (grpSum L k n) = grpSum L k n := by
    obtain ⟨m, rfl⟩ : ∃ m, n = m + 1 := ⟨n - 1, by omega⟩
    rw [grpSum, wrp_wrp]
  have hwr : wt (L.take (k + n)) r = grpSum L k n := by
    unfold wt at hw0 ⊢
    rw [g1, ← wrp_add, hw0, Int.zero_add, hin]
  have hafter : ∀ i, (hi : i < L.length) → k + n ≤ i → cmpL r L[i].1 < 0 := fun i hi h => by
    have hkn : k + n < L.length := by omega
    have e1 : cmpL r L[k + n].1 ≤ 0 := by rw [← hr]; exact hR k (k + n) hk hkn (by omega)
    have e2 : cmpL r L[k + n].1 ≠ 0 := fun e => ho hkn (cmpL_eq _ _ e).symm
    by_cases e : i = k + n
    · subst e; omega
    · exact cmpL_lt_le (by omega) (hR (k + n) i hkn hi (by omega))
  have hold : ∀ x ∈ S, ∀ i, (hi : i < L.length) → k + n ≤ i → cmpL x.1 L[i].1 < 0 := fun x hx i hi h => hS.2.2 x hx i hi (by omega)
  by_cases e : grpSum L k n = 0
  · rw [if_pos e]
    refine ⟨hS.1, fun q => ?_, hold⟩
    rw [hS.2.1 q]
    by_cases hq : q = r
    · rw [hq, hw0, hwr, e]
    · unfold wt; rw [g2 q hq]
  · rw [if_neg e]
    refine ⟨strict_app hS.1 ⟨e, hin, by simp, trivial⟩ (fun x hx y hy => by rw [List.mem_singleton.1 hy]; exact hnone x hx), fun q => ?_, fun x hx i hi h => ?_⟩
    · unfold wt
      rw [tot_app, ← wrp_add]
      have := hS.2.1 q
      unfold wt at this
      rw [this]
      by_cases hq : q = r
      · rw [hq]
        unfold wt at hw0 hwr
        rw [hw0, hwr]
        simp [tot, hin]
      · rw [g2 q hq, wrp_add]
        simp [tot, Ne.symm hq]
    · rcases List.mem_append.1 hx with e1 | e1
      · exact hold x e1 i hi h
      · rw [List.mem_singleton.1 e1]; exact hafter i hi h
theorem summed_end {L : List It} {S : List It} (h : Summed L L.length S) : Strict S ∧ ∀ r, wt S r = wt L r := ⟨h.1, fun r => by rw [h.2.1 r, List.take_length]⟩

/-! The one list: what zset.Sum tells. -/
def grpL : Nat → List It → List It
  | 0, _ => []
  | _ + 1, [] => []
  | n + 1, x :: l => let r := x.1; let m := wt (x :: l) r; let rest := grpL n (l.filter (fun y => decide (y.1 ≠ r))); if m = 0 then rest else (r, m) :: rest
/-- Of a list: each row with its weight, in order. -/
def sumL (l : List It) : List It := grpL (l.length + 1) (l.mergeSort (fun x y => !itLt y x))
theorem tot_filter {r q : List Int} (h : q ≠ r) : ∀ l : List It, tot q (l.filter (fun y => decide (y.1 ≠ r))) = tot q l
  | [] => rfl
  | x :: l => by
    rw [List.filter_cons]
    by_cases e : x.1 = r
    · rw [if_neg (by simp [e]), tot_filter h l, tot, if_neg (by rw [e]; exact Ne.symm h)]; omega
    · rw [if_pos (by simp [e]), tot, tot, tot_filter h l]
theorem grpL_mem : ∀ n (l : List It) (z : It), z ∈ grpL n l → ∃ y ∈ l, y.1 = z.1
  | 0, l, z, h => by simp [grpL] at h
  | n + 1, [], z, h => by simp [grpL] at h
  | n + 1, x :: l, z, h => by
    simp only [grpL] at h
    have rest : z ∈ grpL n (l.filter (fun y => decide (y.1 ≠ x.1))) → ∃ y ∈ x :: l, y.1 = z.1 := fun h => by
      obtain ⟨y, hy, e⟩ := grpL_mem n _ z h
      exact ⟨y, by simp [(List.mem_filter.1 hy).1], e⟩
    split at h
    · exact rest h
    · rcases List.mem_cons.1 h with e | e
      · exact ⟨x, by simp, by rw [e]⟩
      · exact rest e
theorem grpL_law : ∀ n (l : List It), l.length < n → l.Pairwise (fun x y => cmpL x.1 y.1 ≤ 0) → Strict (grpL n l) ∧ ∀ r, wt (grpL n l) r = wt l r
  | 0, l, h, _ => by omega
  | n + 1, [], _, _ => ⟨trivial, fun r => rfl⟩
  | n + 1, x :: l, h, hp => by
    have hlen := List.length_filter_le (fun y : It => decide (y.1 ≠ x.1)) l
    simp only [List.length_cons] at h
    obtain ⟨i1, i2⟩ := grpL_law n (l.filter (fun y => decide (y.1 ≠ x.1))) (by omega) ((List.pairwise_cons.1 hp).2.filter _)
    have hlt : ∀ y ∈ grpL n (l.filter (fun y => decide (y.1 ≠ x.1))), cmpL x.1 y.1 < 0 := fun y hy => by
      obtain ⟨z, hz, e⟩ := grpL_mem _ _ _ hy
      obtain ⟨hz1, hz2⟩ := List.mem_filter.1 hz
      have h1 := (List.pairwise_cons.1 hp).1 z hz1
      have h2 : cmpL x.1 z.1 ≠ 0 := fun e => (by simpa using hz2 : z.1 ≠ x.1) (cmpL_eq _ _ e).symm
      rw [← e]; omega
    have hx : ∀ r, r ≠ x.1 → wt (l.filter (fun y => decide (y.1 ≠ x.1))) r = wt (x :: l) r := fun r hr => by
      unfold wt; rw [tot_filter hr, tot, if_neg (Ne.symm hr), Int.zero_add]
    simp only [grpL]
    by_cases e : wt (x :: l) x.1 = 0
    · rw [if_pos e]
      refine ⟨i1, fun r => ?_⟩
      by_cases hr : r = x.1
      · rw [hr, e]; exact strict_wt_lt hlt
      · rw [i2 r, hx r hr]
    · rw [if_neg e]
      refine ⟨⟨e, wrp_wrp _, hlt, i1⟩, fun r => ?_⟩
      by_cases hr : r = x.1
      · rw [hr]; exact strict_wt ⟨e, wrp_wrp _, hlt, i1⟩
      · rw [← hx r hr, ← i2 r]
        unfold wt
        rw [tot, if_neg (Ne.symm hr), Int.zero_add]
theorem sumL_law (l : List It) : Strict (sumL l) ∧ ∀ r, wt (sumL l) r = wt l r := by
  have hs := List.pairwise_mergeSort (le := fun x y : It => !itLt y x) (fun a b c h1 h2 => by
      simp only [Bool.not_eq_true', itLt] at *
      exact swo_le swo_it (x := a) (y := b) (z := c) h1 h2) (fun a b => by
      cases h : itLt b a
      · simp
      · simp [swo_lt_le swo_it h]) l
  obtain ⟨h1, h2⟩ := grpL_law (l.length + 1) (l.mergeSort (fun x y => !itLt y x)) (by simp) (hs.imp fun {a b} h => by
    simp only [Bool.not_eq_true', itLt, decide_eq_false_iff_not] at h
    have := cmpL_neg a.1 b.1
    omega)
  exact ⟨h1, fun r => by unfold sumL; rw [h2 r]; unfold wt; rw [tot_perm (List.mergeSort_perm _ _)]⟩
theorem sumL_eq {l S : List It} (h : Strict S) (hw : ∀ r, wt S r = wt l r) : S = sumL l := strict_ext h (sumL_law l).1 fun r => by rw [hw r, (sumL_law l).2 r]
theorem sumL_wt {a b : List It} (h : ∀ r, wt a r = wt b r) : sumL a = sumL b := sumL_eq (sumL_law a).1 fun r => by rw [(sumL_law a).2 r, h r]
theorem sumL_perm {a b : List It} (h : a.Perm b) : sumL a = sumL b := sumL_wt fun r => by unfold wt; rw [tot_perm h]
theorem summed_sumL {L l S : List It} (hp : L.Perm l) (h : Summed L L.length S) : S = sumL l := by
  obtain ⟨h1, h2⟩ := summed_end h
  exact sumL_eq h1 fun r => by rw [h2 r]; unfold wt; rw [tot_perm hp]
theorem sumL_strict {S : List It} (h : Strict S) : sumL S = S := (sumL_eq h fun r => rfl).symm
theorem sumL_app_sumL (a b : List It) : sumL (sumL a ++ b) = sumL (a ++ b) := sumL_wt fun r => by
  unfold wt; rw [tot_app, tot_app, ← wrp_add, ← wrp_add (tot r a)]
  have := (sumL_law a).2 r
  unfold wt at this
  rw [this]
theorem sumL_comm (a b : List It) : sumL (a ++ b) = sumL (b ++ a) := sumL_wt fun r => by unfold wt; rw [tot_app, tot_app, Int.add_comm]
theorem sumL_mem {l : List It} {z : It} (h : z ∈ sumL l) : ∃ y ∈ l, y.1 = z.1 := by
  obtain ⟨y, hy, e⟩ := grpL_mem _ _ _ h
  exact ⟨y, (List.mergeSort_perm _ _).mem_iff.1 hy, e⟩
theorem grpL_len : ∀ n (l : List It), (grpL n l).length ≤ l.length
  | 0, l => by simp [grpL]
  | n + 1, [] => by simp [grpL]
  | n + 1, x :: l => by
    have h1 := grpL_len n (l.filter (fun y => decide (y.1 ≠ x.1)))
    have h2 := List.length_filter_le (fun y : It => decide (y.1 ≠ x.1)) l
    simp only [grpL]
    split
    · simp only [List.length_cons]; omega
    · simp only [List.length_cons]; omega
theorem sumL_len (l : List It) : (sumL l).length ≤ l.length := by
  have := grpL_len (l.length + 1) (l.mergeSort (fun x y => !itLt y x))
  simpa [sumL] using this
end Go.Proofs.YtldlmkfigjicgaaGreatDoor
/- Items of sets in memory: a row and how many times; lists of ints. -/
namespace Go.Proofs.YtldlmkfigjicgaaGreatDoor
set_option linter.unusedVariables false
open Go.RowKit

/-- An item, and where its row lies. -/
structure IR where
  row : List Int
  A : Option Addr
  k : Nat
  n : Int
instance : Inhabited IR := ⟨⟨[], none, 0, 0⟩⟩
abbrev IR.it (x : IR) : It := (x.row, x.n)
abbrev IR.cells (x : IR) : List Value := [.slice x.A x.row.length x.k, .int .i64 x.n]
abbrev its (L : List IR) : List It := L.map IR.it
abbrev rcells (L : List IR) : List Value := L.flatMap IR.cells
theorem IR.len (x : IR) : x.cells.length = 2 := rfl
theorem rcells_len (L : List IR) : (rcells L).length = L.length * 2 := flat_len IR.len L
theorem rcells_one (L : List IR) : ∀ u ∈ rcells L, u.oneCell' = true := by
  intro u hu
  obtain ⟨x, -, hx⟩ := List.mem_flatMap.1 hu
  simp only [IR.cells, List.mem_cons, List.not_mem_nil, or_false] at hx
  rcases hx with rfl | rfl <;> rfl
abbrev icells' (l : List Int) : List Value := l.map (Value.int .i64)
/-- The rows of the items lie below B. -/
def RowsAt (w : World) (B : Nat) (L : List IR) : Prop := ∀ x ∈ L, Row w B x.A (icells' x.row) ∧ x.row.length ≤ 9223372036854775807
/-- A list of items lies at A, their rows too. -/
def RowI (w : World) (B : Nat) (A : Option Addr) (L : List IR) : Prop := Row w B A (rcells L) ∧ RowsAt w B L
theorem RowsAt.below {w w' : World} {B C : Nat} {L : List IR} (h : RowsAt w B L) (hb : Below C w w') (hB : B ≤ C) : RowsAt w' B L := fun x hx => ⟨(h x hx).1.below hb hB, (h x hx).2⟩
theorem RowsAt.more {w : World} {B C : Nat} {L : List IR} (h : RowsAt w B L) (hB : B ≤ C) : RowsAt w C L := fun x hx => ⟨(h x hx).1.more hB, (h x hx).2⟩
theorem RowsAt.step {w w' : World} {L : List IR} (h : RowsAt w w.heap.size L) (hb : Below w.heap.size w w') : RowsAt w' w'.heap.size L := (h.below hb (Nat.le_refl _)).more hb.size
theorem RowsAt.app {w : World} {B : Nat} {L M : List IR} (h : RowsAt w B L) (h' : RowsAt w B M) : RowsAt w B (L ++ M) := fun x hx => by
  rcases List.mem_append.1 hx with e | e
  · exact h x e
  · exact h' x e
theorem RowsAt.sub {w : World} {B : Nat} {L M : List IR} (h : RowsAt w B L) (hs : ∀ x ∈ M, x ∈ L) : RowsAt w B M := fun x hx => h x (hs x hx)
theorem RowI.step {w w' : World} {A : Option Addr} {L : List IR} (h : RowI w w.heap.size A L) (hb : Below w.heap.size w w') : RowI w' w'.heap.size A L := ⟨h.1.step hb, h.2.step hb⟩
theorem RowI.nil {w : World} {B : Nat} {A : Option Addr} : RowI w B A [] := ⟨Row.nil, fun x hx => by simp at hx⟩
theorem Row.it {w : World} {B : Nat} {A : Option Addr} {L : List IR} (h : Row w B A (rcells L)) {k : Nat} (hk : k < L.length) :
    ∃ b off, A = some ⟨b, off, none⟩ ∧ b < B ∧ w.cell? ⟨b, off + k * 2, none⟩ = some (.slice L[k].A L[k].row.length L[k].k) ∧ w.cell? ⟨b, off + k * 2 + 1, none⟩ = some (.int .i64 L[k].n) := by
  obtain ⟨b, off, h1, h2, h3⟩ := Row.flat IR.len h (by omega) hk
  exact ⟨b, off, h1, h2, h3 0 _ rfl, h3 1 _ rfl⟩
theorem Row.int' {w : World} {B : Nat} {A : Option Addr} {l : List Int} (h : Row w B A (icells' l)) {k : Nat} (hk : k < l.length) :
    ∃ b off, A = some ⟨b, off, none⟩ ∧ b < B ∧ w.cell? ⟨b, off + k, none⟩ = some (.int .i64 l[k]) := by
  obtain ⟨b, off, h1, h2, h3⟩ := h.at_ (show 0 < (icells' l).length by simp; omega)
  exact ⟨b, off, h1, h2, h3 k _ (by simp [hk])⟩
end Go.Proofs.YtldlmkfigjicgaaGreatDoor
/- Slices as a claim reads them; what the second form's bound gives. -/
namespace Go.Proofs.YtldlmkfigjicgaaGreatDoor
set_option linter.unusedVariables false
open Go.ChangeShapes Go.WideShapes Go.ChangeAt Go.RowKit Go.Deep

theorem bulk_one {H : Type} (d : DataW H) : 1 ≤ Rows.uptoBulk d := by
  cases d with
  | lit l => cases l <;> simp [Rows.uptoBulk]
  | nil => simp [Rows.uptoBulk]
  | ptr d => simp [Rows.uptoBulk]
  | slice elems spare => simp [Rows.uptoBulk]
  | agg parts => simp [Rows.uptoBulk]
  | iface t d => simp [Rows.uptoBulk]
  | map entries => simp [Rows.uptoBulk]
  | held h => simp [Rows.uptoBulk]
theorem bulk_len {H : Type} (l : List (DataW H)) : l.length ≤ Rows.uptoBulkAll l := by
  induction l with
  | nil => simp [Rows.uptoBulkAll]
  | cons x r ih => have := bulk_one x; simp only [Rows.uptoBulkAll, List.length_cons]; omega
theorem bulk_slice {H : Type} (elems spare : List (DataW H)) : elems.length + 1 ≤ Rows.uptoBulk (.slice elems spare) := by
  have h1 := bulk_len elems
  simp only [Rows.uptoBulk]
  omega
/-- A slice of things of s cells each, as the claim reads it. -/
theorem open_each {α H : Type} {f : α → List Value} {s : Nat} (hf : ∀ x, (f x).length = s) (hs : 0 < s) {Q : α → Prop} {enc : TypeId × Value → H} {w : World} {base n : Nat} {spare : Nat → Bool} {held : Bool} {cs : List Value} {x : DataW H × List MemPlace} {t e : TypeId}
    (ht : Tryz.prog.underlying t = some (.slice e)) (hc : Tryz.prog.cellsOf e = s)
    (ho : ∀ n cs y, DataW.trod enc Tryz.prog w base spare held n e cs = some y → ∃ z : α, Q z ∧ cs = f z)
    (h : DataW.trod enc Tryz.prog w base spare held n t cs = some x) :
    ∃ (A : Option Addr) (k : Nat) (l : List α), cs = [.slice A l.length k] ∧ Row w w.heap.size A (l.flatMap f) ∧ (∀ z ∈ l, Q z) ∧ l.length ≤ 9223372036854775807 ∧ l.length ≤ Rows.uptoBulk x.1 := by
  rcases open_slice ht h with ⟨rfl, hx⟩ | ⟨a, len, cap, m, n', D, Pl, rfl, hb, hl, hm, hmm, hx, hi⟩
  · exact ⟨none, 0, [], rfl, Row.nil, by simp, by simp, by simp⟩
  · by_cases h0 : len = 0
    · subst h0
      exact ⟨some a, cap, [], rfl, Row.nil, by simp, by simp, by simp⟩
    · have hlm : len ≤ m := by rw [hmm]; split <;> omega
      have hd : ∀ i, i < len → ∃ z : α, Q z ∧ ∀ j u, (f z)[j]? = some u → w.cell? ((a.add (i * s)).add j) = some u := by
        intro i hil
        obtain ⟨cs', hc', ht'⟩ := hi i (by omega)
        obtain ⟨z, hq, rfl⟩ := ho _ _ _ ht'
        rw [hc] at hc'
        obtain ⟨_, _, hat⟩ := World.cells?_some hc'
        refine ⟨z, hq, fun j u hu => ?_⟩
        have hj : j < s := by
          rcases Nat.lt_or_ge j s with q | q
          · exact q
          · rw [List.getElem?_eq_none (by rw [hf]; exact q)] at hu; cases hu
        rw [hat j hj]; exact hu
      obtain ⟨b, off, spot⟩ := a
      obtain ⟨z0, _, hz0⟩ := hd 0 (by omega)
      have hu0 : (f z0)[0]? = some ((f z0)[0]'(by rw [hf]; exact hs)) := List.getElem?_eq_getElem _
      have hx0 := hz0 0 _ hu0
      have hspot : spot = none := by simpa [Addr.add] using World.cell?_spot hx0
      subst hspot
      have hblk : b < w.heap.size := World.block_lt_of_cell? _ _ (by simpa [Addr.add] using hx0)
      obtain ⟨l, hll, hql, hr⟩ := Row.of_each hf (w := w) (b := b) (off := off) (n := len) hblk (Q := Q) (fun i hil => by
        obtain ⟨z, hq, hz⟩ := hd i hil
        refine ⟨z, hq, fun j u hu => ?_⟩
        have := hz j u hu
        rw [add_none, add_none, Nat.add_assoc] at this
        exact this)
      subst hll
      refine ⟨some ⟨b, off, none⟩, cap, l, rfl, hr, hql, ?_, ?_⟩
      · simp only [maxLen] at hm
        omega
      · rw [hx]
        have := bulk_slice ((List.range l.length).map D) ((List.range (m - l.length)).map fun j => D (l.length + j))
        simp only [List.length_map, List.length_range] at this
        simp only
        omega
end Go.Proofs.YtldlmkfigjicgaaGreatDoor
/- Arguments that are lists of items, or of ints, as a claim reads them. -/
namespace Go.Proofs.YtldlmkfigjicgaaGreatDoor
set_option linter.unusedVariables false
open Go.ChangeShapes Go.WideShapes Go.ChangeAt Go.RowKit Go.Deep

set_option maxRecDepth 100000 in
theorem open_ints_cells {H : Type} {enc : TypeId × Value → H} {w : World} {base n : Nat} {spare : Nat → Bool} {held : Bool} {cs : List Value} {x : DataW H × List MemPlace}
    (h : DataW.trod enc Tryz.prog w base spare held n 30 cs = some x) : ∃ (A : Option Addr) (k : Nat) (l : List Int), cs = [.slice A l.length k] ∧ Row w w.heap.size A (icells' l) ∧ l.length ≤ 9223372036854775807 ∧ l.length ≤ Rows.uptoBulk x.1 := by
  obtain ⟨A, k, l, e, hr, hq, hl, hb⟩ := open_each (f := fun z : Int => [.int .i64 z]) (s := 1) (Q := fun _ => True) (fun _ => rfl) (by decide) Tryz.underlying30 (by kernel_rfl) (fun n cs y hy => by
    obtain ⟨z, hz, -⟩ := DataW.trod_int Tryz.underlying3 hy
    exact ⟨z, trivial, hz⟩) h
  exact ⟨A, k, l, e, by rw [show icells' l = l.flatMap (fun z => [Value.int .i64 z]) from List.map_eq_flatMap]; exact hr, hl, hb⟩
set_option maxRecDepth 100000 in
theorem open_item {H : Type} {enc : TypeId × Value → H} {w : World} {base n : Nat} {spare : Nat → Bool} {held : Bool} {cs : List Value} {x : DataW H × List MemPlace}
    (h : DataW.trod enc Tryz.prog w base spare held n 67 cs = some x) : ∃ z : IR, (Row w w.heap.size z.A (icells' z.row) ∧ z.row.length ≤ 9223372036854775807) ∧ cs = z.cells := by
  obtain ⟨xs, n', _, hx, hlen, hxl, hf⟩ := DataW.trod_struct Tryz.underlying67 h
  have c2 : Tryz.prog.cellsOf 67 = 2 := by kernel_rfl
  have c1 : Tryz.prog.cellsOf 30 = 1 := by kernel_rfl
  have c1' : Tryz.prog.cellsOf 3 = 1 := by kernel_rfl
  rw [c2] at hlen
  match cs, hlen with
  | [u0, u1], _ =>
    match xs, hxl with
    | [y0, y1], _ =>
      have h0 := hf 0 _ rfl
      have h1 := hf 1 _ rfl
      simp only [List.getElem_toArray, List.getElem_cons_zero, List.getElem_cons_succ, List.getElem?_cons_zero, List.getElem?_cons_succ] at h0 h1
      simp only [c1, c1', List.drop_zero, List.take_succ_cons, List.take_zero, List.drop_succ_cons] at h0 h1
      obtain ⟨A, k, l, e0, r0, l0, -⟩ := open_ints_cells h0
      obtain ⟨z, e1, _⟩ := DataW.trod_int Tryz.underlying3 h1
      injection e0 with e0
      injection e1 with e1
      subst e0 e1
      exact ⟨⟨l, A, k, z⟩, ⟨r0, l0⟩, rfl⟩
end Go.Proofs.YtldlmkfigjicgaaGreatDoor
/- Sets with weights: what a right set is; what Norm, Add, Neg tell. No program in sight. -/
namespace Go.Proofs.YtldlmkfigjicgaaGreatDoor
set_option linter.unusedVariables false

def farB (n : Int) : Bool := decide (n < -1048576) || decide (1048576 < n)
def outB (n : Int) : Bool := decide (n < -1073741824) || decide (1073741824 < n)
def rowB (r : List Int) : Bool := decide (r.length ≤ 8) && !r.any outB
def badB (x : It) : Bool := !rowB x.1 || farB x.2
/-- Is the i-th item of a list wrong? -/
def zbadAt (L : List It) : Nat → Bool
  | 0 => match L[0]? with | none => false | some x => badB x || decide (x.2 = 0)
  | k + 1 => match L[k]?, L[k + 1]? with | some y, some x => (badB x || decide (x.2 = 0)) || decide (0 ≤ cmpL y.1 x.1) | _, _ => false
def setI (L : List It) : Int := if 400 < L.length then 2 else if (List.range L.length).any (zbadAt L) = true then 5 else 0
theorem badAt_zero {L : List It} (h : 0 < L.length) : zbadAt L 0 = (badB L[0] || decide (L[0].2 = 0)) := by
  rw [zbadAt, List.getElem?_eq_getElem h]
theorem badAt_succ {L : List It} {k : Nat} (h : k + 1 < L.length) : zbadAt L (k + 1) = ((badB L[k + 1] || decide (L[k + 1].2 = 0)) || decide (0 ≤ cmpL L[k].1 L[k + 1].1)) := by
  rw [zbadAt, List.getElem?_eq_getElem h, List.getElem?_eq_getElem (show k < L.length by omega)]

theorem badB_false {x : It} (h : badB x = false) : x.1.length ≤ 8 ∧ -1048576 ≤ x.2 ∧ x.2 ≤ 1048576 := by
  unfold badB rowB farB at h
  simp only [Bool.or_eq_false_iff, Bool.not_eq_false', Bool.and_eq_true, decide_eq_true_eq, decide_eq_false_iff_not] at h
  omega
theorem rise_trans {L : List It} (h : ∀ k, (hk : k + 1 < L.length) → cmpL L[k].1 L[k + 1].1 < 0) : ∀ (d i : Nat) (hd : i + d + 1 < L.length), cmpL L[i].1 L[i + d + 1].1 < 0
  | 0, i, hd => h i hd
  | d + 1, i, hd => cmpL_lt_le (rise_trans h d i (by omega)) (Int.le_of_lt (h (i + d + 1) hd))
theorem strict_of : ∀ {L : List It}, (∀ x ∈ L, x.2 ≠ 0 ∧ wrp x.2 = x.2) → L.Pairwise (fun x y => cmpL x.1 y.1 < 0) → Strict L
  | [], _, _ => trivial
  | x :: L, h, hp => ⟨(h x (by simp)).1, (h x (by simp)).2, fun y hy => (List.pairwise_cons.1 hp).1 y hy, strict_of (fun y hy => h y (by simp [hy])) (List.pairwise_cons.1 hp).2⟩
theorem strict_pair : ∀ {L : List It}, Strict L → L.Pairwise (fun x y => cmpL x.1 y.1 < 0)
  | [], _ => List.Pairwise.nil
  | x :: L, h => List.pairwise_cons.2 ⟨fun y hy => h.2.2.1 y hy, strict_pair h.2.2.2⟩
theorem strict_ne : ∀ {L : List It}, Strict L → ∀ x ∈ L, x.2 ≠ 0
  | x :: L, h, y, hy => by
    rcases List.mem_cons.1 hy with e | e
    · rw [e]; exact h.1
    · exact strict_ne h.2.2.2 y e
/-- A right set. -/
theorem setI_zero {L : List It} : setI L = 0 ↔ L.length ≤ 400 ∧ (∀ x ∈ L, badB x = false) ∧ Strict L := by
  unfold setI
  constructor
  · intro h
    by_cases h4 : 400 < L.length
    · rw [if_pos h4] at h; omega
    · rw [if_neg h4] at h
      by_cases hb : (List.range L.length).any (zbadAt L) = true
      · rw [if_pos hb] at h; omega
      · have hno : ∀ i, i < L.length → zbadAt L i = false := fun i hi => by
          cases hq : zbadAt L i
          · rfl
          · exact absurd (List.any_eq_true.2 ⟨i, List.mem_range.2 hi, hq⟩) hb
        have hx : ∀ i, (hi : i < L.length) → badB L[i] = false ∧ L[i].2 ≠ 0 := fun i hi => by
          have := hno i hi
          cases i with
          | zero => rw [badAt_zero hi] at this; simpa using this
          | succ k => rw [badAt_succ hi] at this; simp at this; exact ⟨this.1.1, this.1.2⟩
        have hr : ∀ k, (hk : k + 1 < L.length) → cmpL L[k].1 L[k + 1].1 < 0 := fun k hk => by
          have := hno (k + 1) hk
          rw [badAt_succ hk] at this; simp at this; exact this.2
        have hb' : ∀ x ∈ L, badB x = false := fun x hxm => by
          obtain ⟨i, hi, rfl⟩ := List.getElem_of_mem hxm
          exact (hx i hi).1
        refine ⟨by omega, hb', strict_of (fun x hxm => ?_) (List.pairwise_iff_getElem.2 fun i j hi hj hij => ?_)⟩
        · obtain ⟨i, hi, rfl⟩ := List.getElem_of_mem hxm
          refine ⟨(hx i hi).2, wrp_id ?_⟩
          have := badB_false (hx i hi).1
          omega
        · have := rise_trans hr (j - i - 1) i (by omega)
          simpa [show i + (j - i - 1) + 1 = j by omega] using this
  · rintro ⟨h1, h2, h3⟩
    rw [if_neg (by omega), if_neg]
    intro hb
    obtain ⟨i, hi, e⟩ := List.any_eq_true.1 hb
    have hi' := List.mem_range.1 hi
    have hp := strict_pair h3
    cases i with
    | zero => rw [badAt_zero hi', h2 _ (List.getElem_mem hi')] at e; simp at e; exact strict_ne h3 _ (List.getElem_mem hi') e
    | succ k =>
      rw [badAt_succ hi', h2 _ (List.getElem_mem hi')] at e
      have hq := List.pairwise_iff_getElem.1 hp k (k + 1) (by omega) hi' (by omega)
      simp at e
      rcases e with e | e
      · exact strict_ne h3 _ (List.getElem_mem hi') e
      · omega
/-- What is wrong with a sum. -/
def doneE (S : List It) : Int := if S.any badB = true then 5 else if 400 < S.length then 2 else 0
def doneX (S : List It) : List It := if doneE S = 0 then S else []
theorem doneE_zero {S : List It} : doneE S = 0 ↔ S.length ≤ 400 ∧ ∀ x ∈ S, badB x = false := by
  unfold doneE
  constructor
  · intro h
    by_cases hb : S.any badB = true
    · rw [if_pos hb] at h; omega
    · rw [if_neg hb] at h
      by_cases h4 : 400 < S.length
      · rw [if_pos h4] at h; omega
      · refine ⟨by omega, fun x hx => ?_⟩
        cases hq : badB x
        · rfl
        · exact absurd (List.any_eq_true.2 ⟨x, hx, hq⟩) hb
  · rintro ⟨h1, h2⟩
    rw [if_neg, if_neg (by omega)]
    intro hb
    obtain ⟨x, hx, e⟩ := List.any_eq_true.1 hb
    rw [h2 x hx] at e; cases e
/-- A sum that is done is a right set. -/
theorem done_set {l : List It} (h : doneE (sumL l) = 0) : setI (sumL l) = 0 := by
  obtain ⟨h1, h2⟩ := doneE_zero.1 h
  exact setI_zero.2 ⟨h1, h2, (sumL_law l).1⟩
def addE (a b : List It) : Int := if setI a ≠ 0 then setI a else if setI b ≠ 0 then setI b else doneE (sumL (a ++ b))
def addX (a b : List It) : List It := if addE a b = 0 then sumL (a ++ b) else []
def negL (l : List It) : List It := l.map (fun x => (x.1, -x.2))
end Go.Proofs.YtldlmkfigjicgaaGreatDoor
/- Sets with weights: which rows and weights may be; slices.IndexFunc, ContainsFunc at int. -/
namespace Go.Proofs.YtldlmkfigjicgaaGreatDoor
set_option linter.unusedVariables false
set_option linter.unusedSimpArgs false
open Go.ChangeShapes Go.WideShapes Go.ChangeAt Go.RowKit

/-- An index that IndexFunc tells: at least 0 just if there is one. -/
def FoundAt (p : Prop) (w : World) (e : Ending) (w' : World) : Prop := ∃ i : Int, e = .returned (.int .i64 i) ∧ (0 ≤ i ↔ p) ∧ Below w.heap.size w w'
/-- What is asked of a function value: handed an element of the list, in whatever later world, it answers p, and leaves what was there. -/
def PredNt (g : Nat) (caps : Array Value) (p : Int → Bool) (L : List Int) (w : World) : Prop :=
  ∀ w', Below w.heap.size w w' → ∀ x ∈ L, Calls Tryz.prog g (#[.int .i64 x] ++ caps) w' fun e w'' => e = .returned (.bool (p x)) ∧ Below w'.heap.size w' w''
set_option maxHeartbeats 400000 in
set_option maxRecDepth 100000 in
theorem indexNt_any (g : Nat) (caps : Array Value) (p : Int → Bool) (L : List Int) (A : Option Addr) (c : Nat) (w : World) (hr : Row w w.heap.size A (icells' L)) (hl : L.length ≤ 9223372036854775807)
    (eg : ∀ args w, (callFunc g args).run Tryz.prog w = .ok (.enter g args) w) (hp : PredNt g caps p L w) :
    Calls Tryz.prog 92 #[.slice A L.length c, .func (.func g) #[] caps] w (FoundAt (L.any p = true) w) := by
  have HR := hid hr
  clear hr
  go_enter Tryz.func92, Tryz.ntmps92
  go_wp2
  go_loopw [8] (fun i wr => (∃ k : Nat, k ≤ L.length ∧ i = .int .i64 k ∧ ∀ j (h : j < L.length), j < k → p L[j] = false) ∧ Below w.heap.size w wr) (fun i _ => L.length - (intOf i).toNat)
  case atStart => exact ⟨⟨0, by omega, rfl, fun j _ h => absurd h (by omega)⟩, Below.refl _ _⟩
  case round =>
    obtain ⟨⟨k, hk, rfl, hno⟩, hbw⟩ := hrel
    by_cases hlt : k < L.length
    · obtain ⟨b, off, rfl, hb, h0⟩ := (HR.out.below hbw (Nat.le_refl _)).int' hlt
      have hc := hp wr hbw L[k] (List.getElem_mem _)
      have HN := hid hno
      have HB := hid hbw
      have HC := hid hc
      clear hno hbw hc
      generalize hd : L[k] = d at *
      have HD := hid hd
      clear hd
      (try simp only [IR.cells] at h0 HC)
      obtain ⟨pd, hpd⟩ : ∃ b, b = p d := ⟨_, rfl⟩
      rw [← hpd] at HC
      have HP := hid hpd
      clear hpd
      cases pd
      all_goals
        go_wp2_with (refine (HC.out).mono ?_; rintro e w1 ⟨rfl, hb1⟩)
      · go_roundw
        case rel =>
          refine ⟨⟨k + 1, by omega, by go_num, fun j h hj => ?_⟩, HB.out.trans (hb1.mono HB.out.size)⟩
          by_cases e : j = k
          · subst e; rw [HD.out]; exact HP.out.symm
          · exact HN.out j h (by omega)
        case measure => simp [intOf]; omega
      · go_ret
        refine ⟨k, rfl, iff_of_true (by omega) (List.any_eq_true.2 ⟨L[k], List.getElem_mem _, by rw [HD.out]; exact HP.out.symm⟩), HB.out.trans (hb1.mono HB.out.size)⟩
    · go_wp2
      go_ret
      refine ⟨-1, rfl, iff_of_false (by omega) ?_, hbw⟩
      intro hm
      obtain ⟨d, hd, e⟩ := List.any_eq_true.1 hm
      obtain ⟨j, hj, rfl⟩ := List.getElem_of_mem hd
      rw [hno j hj (by omega)] at e
      cases e
theorem containsNt_any (g : Nat) (caps : Array Value) (p : Int → Bool) (L : List Int) (A : Option Addr) (c : Nat) (w : World) (hr : Row w w.heap.size A (icells' L)) (hl : L.length ≤ 9223372036854775807)
    (eg : ∀ args w, (callFunc g args).run Tryz.prog w = .ok (.enter g args) w) (hp : PredNt g caps p L w) :
    Calls Tryz.prog 68 #[.slice A L.length c, .func (.func g) #[] caps] w fun e w' => e = .returned (.bool (L.any p)) ∧ Below w.heap.size w w' := by
  have H := indexNt_any g caps p L A c w hr hl eg hp
  have HR := hid hr
  have HP := hid hp
  clear hr eg hp
  go_enter Tryz.func68, Tryz.ntmps68
  go_wp2_with (go_at_call 92; refine H.mono ?_; rintro e w' ⟨i, rfl, hi, hb⟩)
  go_ret
  refine ⟨ret_bool ?_, hb⟩
  first
    | (rw [Bool.eq_iff_iff, decide_eq_true_eq]; exact hi)
    | (rw [Bool.eq_iff_iff, decide_eq_true_eq, List.any_eq_true])

theorem far_any (n : Int) (w : World) : Calls Tryz.prog 34 #[.int .i64 n] w fun e w' => e = .returned (.bool (farB n)) ∧ w = w' := by
  obtain ⟨R, hR⟩ : ∃ R, R = farB n := ⟨_, rfl⟩
  rw [← hR]
  have HR := hid hR
  clear hR
  by_cases h1 : n < -1048576
  · go_enter Tryz.func34, Tryz.ntmps34
    go_wp2
    go_ret
    exact ⟨ret_bool (by rw [HR.out]; unfold farB; rw [decide_eq_true h1]; rfl), rfl⟩
  · by_cases h2 : 1048576 < n
    · go_enter Tryz.func34, Tryz.ntmps34
      go_wp2
      go_ret
      exact ⟨ret_bool (by rw [HR.out]; unfold farB; rw [decide_eq_true h2]; simp), rfl⟩
    · go_enter Tryz.func34, Tryz.ntmps34
      go_wp2
      go_ret
      exact ⟨ret_bool (by rw [HR.out]; unfold farB; rw [decide_eq_false (by omega), decide_eq_false (by omega)]; rfl), rfl⟩
theorem row1_any (n : Int) (w : World) : Calls Tryz.prog 69 #[.int .i64 n] w fun e w' => e = .returned (.bool (outB n)) ∧ w = w' := by
  obtain ⟨R, hR⟩ : ∃ R, R = outB n := ⟨_, rfl⟩
  rw [← hR]
  have HR := hid hR
  clear hR
  by_cases h1 : n < -1073741824
  · go_enter Tryz.func69, Tryz.ntmps69
    go_wp2
    go_ret
    exact ⟨ret_bool (by rw [HR.out]; unfold outB; rw [decide_eq_true h1]; rfl), rfl⟩
  · by_cases h2 : 1073741824 < n
    · go_enter Tryz.func69, Tryz.ntmps69
      go_wp2
      go_ret
      exact ⟨ret_bool (by rw [HR.out]; unfold outB; rw [decide_eq_true h2]; simp), rfl⟩
    · go_enter Tryz.func69, Tryz.ntmps69
      go_wp2
      go_ret
      exact ⟨ret_bool (by rw [HR.out]; unfold outB; rw [decide_eq_false (by omega), decide_eq_false (by omega)]; rfl), rfl⟩
theorem enters_row1 : ∀ args w, (callFunc 69 args).run Tryz.prog w = .ok (.enter 69 args) w := enters_of Tryz.func69 (by kernel_rfl) rfl

set_option maxHeartbeats 400000 in
set_option maxRecDepth 100000 in
theorem row_any (r : List Int) (A : Option Addr) (c : Nat) (w : World) (hr : Row w w.heap.size A (icells' r)) (hl : r.length ≤ 9223372036854775807) :
    Calls Tryz.prog 33 #[.slice A r.length c] w fun e w' => e = .returned (.bool (rowB r)) ∧ Below w.heap.size w w' := by
  have HC := hid (containsNt_any 69 #[] outB r A c w hr hl enters_row1 (fun w' hb x hx => (row1_any x w').mono fun e w2 ⟨h1, h2⟩ => ⟨h1, h2 ▸ Below.refl _ _⟩))
  clear hr
  obtain ⟨R, hR⟩ : ∃ R, R = rowB r := ⟨_, rfl⟩
  rw [← hR]
  have HR := hid hR
  clear hR
  obtain ⟨B, hB⟩ : ∃ B, B = r.any outB := ⟨_, rfl⟩
  rw [← hB] at HC
  have HB := hid hB
  clear hB
  by_cases h8 : r.length ≤ 8
  · have h8' : (r.length : Int) ≤ 8 := by omega
    go_enter Tryz.func33, Tryz.ntmps33
    go_wp2_with (go_at_call 68; refine HC.out.mono ?_; rintro e w' ⟨rfl, hb⟩)
    go_ret
    exact ⟨ret_bool (by rw [HR.out]; unfold rowB; rw [decide_eq_true h8, ← HB.out]; rfl), hb⟩
  · have h8' : (8 : Int) < (r.length : Int) := by omega
    go_enter Tryz.func33, Tryz.ntmps33
    go_wp2
    go_ret
    exact ⟨ret_bool (by rw [HR.out]; unfold rowB; rw [decide_eq_false h8]; rfl), Below.refl _ _⟩
end Go.Proofs.YtldlmkfigjicgaaGreatDoor
/- slices.Compare at int, zset.Order. -/
namespace Go.Proofs.YtldlmkfigjicgaaGreatDoor
set_option linter.unusedVariables false
set_option linter.unusedSimpArgs false
open Go.ChangeShapes Go.WideShapes Go.ChangeAt Go.RowKit

theorem isNaN_int (x : Int) (w : World) : Calls Tryz.prog 103 #[.int .i64 x] w fun e w' => e = .returned (.bool false) ∧ w = w' := by
  go_enter Tryz.func103, Tryz.ntmps103
  go_wp2
  go_ret
  simp
def cmpZ (x y : Int) : Int := if x < y then -1 else if y < x then 1 else 0
theorem compareZ_any (x y : Int) (w : World) :
    Calls Tryz.prog 82 #[.int .i64 x, .int .i64 y] w fun e w' => e = .returned (.int .i64 (cmpZ x y)) ∧ w = w' := by
  go_enter Tryz.func82, Tryz.ntmps82
  go_wp2_with (go_at_call 103; refine (isNaN_int _ _).mono ?_; rintro e w' ⟨rfl, rfl⟩)
  all_goals go_ret
  all_goals (refine ⟨?_, rfl⟩; first | (simp [cmpZ, *]; done) | (simp [cmpZ, *]; omega) | (simp [cmpZ]; omega))
theorem cmpL_cons (x y : Int) (l m : List Int) : cmpL (x :: l) (y :: m) = if cmpZ x y = 0 then cmpL l m else cmpZ x y := by
  unfold cmpZ
  rw [cmpL]
  by_cases h1 : x < y
  · rw [if_pos h1, if_pos h1, if_neg (by decide)]
  · rw [if_neg h1, if_neg h1]
    by_cases h2 : y < x
    · rw [if_pos h2, if_pos h2, if_neg (by decide)]
    · rw [if_neg h2, if_neg h2, if_pos rfl]

set_option maxHeartbeats 1000000 in
set_option maxRecDepth 100000 in
theorem compareL_any (l m : List Int) (A B : Option Addr) (c e : Nat) (w : World) (hr : Row w w.heap.size A (icells' l)) (hs : Row w w.heap.size B (icells' m)) (hl : l.length ≤ 9223372036854775807) (hm : m.length ≤ 9223372036854775807) :
    Calls Tryz.prog 50 #[.slice A l.length c, .slice B m.length e] w fun e w' => e = .returned (.int .i64 (cmpL l m)) ∧ w = w' := by
  have HR := hid hr
  have HS := hid hs
  clear hr hs
  obtain ⟨R, hR⟩ : ∃ R, R = cmpL l m := ⟨_, rfl⟩
  rw [← hR]
  have HRR := hid hR
  clear hR
  go_enter Tryz.func50, Tryz.ntmps50
  go_wp2
  go_loop [11] (fun i => ∃ k : Nat, k ≤ l.length ∧ k ≤ m.length ∧ i = .int .i64 k ∧ Hid (R = cmpL (l.drop k) (m.drop k))) (fun i => l.length - (intOf i).toNat)
  case atStart => exact ⟨0, by omega, by omega, rfl, HRR⟩
  case round =>
    clear HRR
    obtain ⟨k, hk, hk2, rfl, HK⟩ := hrel
    by_cases hlt : k < l.length
    · obtain ⟨b, off, rfl, hb, h0⟩ := HR.out.int' hlt
      have HD := hid (List.drop_eq_getElem_cons hlt)
      by_cases hlt2 : k < m.length
      · obtain ⟨b', off', rfl, hb', h0'⟩ := HS.out.int' hlt2
        have HD' := hid (List.drop_eq_getElem_cons hlt2)
        have HC : Hid (R = if cmpZ l[k] m[k] = 0 then cmpL (l.drop (k + 1)) (m.drop (k + 1)) else cmpZ l[k] m[k]) := hid (by rw [HK.out, HD.out, HD'.out, cmpL_cons])
        clear HK HD HD'
        generalize l[k] = x at *
        generalize m[k] = y at *
        have hc := compareZ_any x y w
        obtain ⟨cv, hcv⟩ : ∃ cv, cv = cmpZ x y := ⟨_, rfl⟩
        rw [← hcv] at hc HC
        have HCC := hid hc
        clear hc hcv
        by_cases hz : cv = 0
        · have t1 : (cv != 0) = false := by simp [hz]
          have HZ := hid hz
          clear hz
          go_wp2_with (go_at_call 82; refine HCC.out.mono ?_; rintro e w' ⟨rfl, rfl⟩)
          go_round
          case rel => exact ⟨k + 1, by omega, by omega, by go_num, hid (by rw [HC.out, if_pos HZ.out])⟩
          case measure => simp [intOf]; omega
        · have t1 : (cv != 0) = true := by simp [hz]
          have HZ := hid hz
          clear hz
          go_wp2_with (go_at_call 82; refine HCC.out.mono ?_; rintro e w' ⟨rfl, rfl⟩)
          go_ret
          exact ⟨ret_int (by rw [HC.out, if_neg HZ.out]), rfl⟩
      · have he : Hid (R = 1) := hid (by rw [HK.out, HD.out, show m.drop k = [] from List.drop_eq_nil_of_le (by omega)]; rfl)
        have hkm : (m.length : Int) ≤ (k : Int) := by omega
        clear HK HD
        go_wp2
        go_ret
        exact ⟨ret_int he.out.symm, rfl⟩
    · have hkl : k = l.length := by omega
      by_cases hlt2 : l.length < m.length
      · have he : Hid (R = -1) := hid (by rw [HK.out, show l.drop k = [] from List.drop_eq_nil_of_le (by omega), List.drop_eq_getElem_cons (show k < m.length by omega)]; rfl)
        clear HK hkl
        go_wp2
        go_ret
        exact ⟨ret_int he.out.symm, rfl⟩
      · have he : Hid (R = 0) := hid (by rw [HK.out, show l.drop k = [] from List.drop_eq_nil_of_le (by omega), show m.drop k = [] from List.drop_eq_nil_of_le (by omega)]; rfl)
        clear HK hkl
        go_wp2
        go_ret
        exact ⟨ret_int he.out.symm, rfl⟩

set_option maxRecDepth 100000 in
theorem orderL_any (l m : List Int) (A B : Option Addr) (c e : Nat) (w : World) (hr : Row w w.heap.size A (icells' l)) (hs : Row w w.heap.size B (icells' m)) (hl : l.length ≤ 9223372036854775807) (hm : m.length ≤ 9223372036854775807) :
    Calls Tryz.prog 16 #[.slice A l.length c, .slice B m.length e] w fun e w' => e = .returned (.int .i64 (cmpL l m)) ∧ w = w' := by
  have HC := hid (compareL_any l m A B c e w hr hs hl hm)
  clear hr hs
  go_enter Tryz.func16, Tryz.ntmps16
  go_wp2_with (go_at_call 50; refine HC.out.mono ?_; rintro e w' ⟨rfl, rfl⟩)
  go_ret
  exact ⟨rfl, rfl⟩
end Go.Proofs.YtldlmkfigjicgaaGreatDoor
/- Words for items of a call's own making. -/
namespace Go.Proofs.YtldlmkfigjicgaaGreatDoor
set_option linter.unusedVariables false
set_option linter.unusedSimpArgs false
open Go.ChangeShapes Go.WideShapes Go.ChangeAt Go.RowKit

theorem Row.grown_ne {w w' : World} {B : Nat} {A : Option Addr} {xs : List Value} {r : Option Nat} (h : Row w B A xs) (hB : B ≤ w.heap.size) (hg : w.grownBy w' r) (hr : ∀ b off q, A = some ⟨b, off, q⟩ → some b ≠ r) : Row w' B A xs := by
  rcases h with h | ⟨b, off, h1, h2, h3⟩
  · exact .inl h
  · refine .inr ⟨b, off, h1, h2, fun j u hu => ?_⟩
    rw [World.cell?_of_block (w := w) (hg.block b (by omega) (hr b off none h1))]
    exact h3 j u hu
/-- A row of ints in a block of its own: it lies there, and its room is known. -/
structure RowOwn (w : World) (A : Option Addr) (l : List Int) (k : Nat) : Prop where
  row : Row w w.heap.size A (icells' l)
  own : w.ownsRow 0 3 1 (.slice A l.length k) l.length (icells' l)
theorem RowOwn.of_own {w : World} {B n k : Nat} {A : Option Addr} {l : List Int} (h : w.ownsRow B 3 1 (.slice A n k) n (icells' l)) (hn : n = l.length) : RowOwn w A l k := by
  subst hn; exact ⟨Row.of_ownS h, own_baseS h (Nat.zero_le _)⟩
theorem RowOwn.step {w w' : World} {A : Option Addr} {l : List Int} {k : Nat} (h : RowOwn w A l k) (hb : Below w.heap.size w w') : RowOwn w' A l k := ⟨h.row.step hb, own_laterS h.own hb⟩
theorem RowOwn.grown_ne {w w' : World} {B : Nat} {A : Option Addr} {l : List Int} {k : Nat} {r : Option Nat} (h : RowOwn w A l k) (_ : B ≤ w.heap.size) (hg : w.grownBy w' r) (hr : ∀ b off q, A = some ⟨b, off, q⟩ → some b ≠ r) : RowOwn w' A l k := by
  refine ⟨(h.row.grown_ne (Nat.le_refl _) hg hr).more hg.size, ?_⟩
  obtain ⟨h1, h2⟩ := h.own
  refine ⟨h1, ?_⟩
  rcases h2 with h2 | ⟨b, cap, cur, e, hb, hgt, h3⟩
  · exact .inl h2
  · have hlt : b < w.heap.size := by
      rcases Nat.lt_or_ge b w.heap.size with h | h
      · exact h
      · rw [Array.getElem?_eq_none h] at hgt; cases hgt
    refine .inr ⟨b, cap, cur, e, hb, (hg.block b hlt ?_).trans hgt, h3⟩
    injection e with e
    exact hr b 0 none e
theorem RowOwn.more {w : World} {A : Option Addr} {l : List Int} {k B C : Nat} (h : RowOwn w A l k) (_ : B ≤ C) : RowOwn w A l k := h
/-- The rows of items that a call has made: in blocks of their own. -/
def RowsNew (w : World) (lo : Nat) (v : Value) (M : List IR) : Prop := ∀ x ∈ M, RowOwn w x.A x.row x.k ∧ NewAt lo x.A ∧ (∀ b off q, x.A = some ⟨b, off, q⟩ → some b ≠ v.ownBlock ∧ b < w.heap.size) ∧ x.row.length ≤ 1048576
theorem RowsNew.nil (w : World) (lo : Nat) (v : Value) : RowsNew w lo v [] := fun x hx => by simp at hx
theorem RowsNew.step {w w' : World} {lo : Nat} {v : Value} {M : List IR} (h : RowsNew w lo v M) (hb : Below w.heap.size w w') : RowsNew w' lo v M := fun x hx => by
  obtain ⟨h1, h2, h3, h4⟩ := h x hx
  exact ⟨h1.step hb, h2, fun b off q e => ⟨(h3 b off q e).1, Nat.lt_of_lt_of_le (h3 b off q e).2 hb.size⟩, h4⟩
theorem RowsNew.grown {w w' : World} {lo : Nat} {v v' : Value} {M : List IR} (h : RowsNew w lo v M) (hg : w.grownBy w' v.ownBlock) (hv : v'.ownBlock = v.ownBlock ∨ v'.ownBlock = some w.heap.size) : RowsNew w' lo v' M := fun x hx => by
  obtain ⟨h1, h2, h3, h4⟩ := h x hx
  refine ⟨h1.grown_ne (Nat.le_refl _) hg (fun b off q e => (h3 b off q e).1), h2, fun b off q e => ⟨?_, Nat.lt_of_lt_of_le (h3 b off q e).2 hg.size⟩, h4⟩
  rcases hv with hv | hv
  · rw [hv]; exact (h3 b off q e).1
  · rw [hv]; intro e2; injection e2 with e2; have := (h3 b off q e).2; omega
theorem RowsNew.snoc {w : World} {lo : Nat} {v : Value} {M : List IR} (h : RowsNew w lo v M) {x : IR} (h1 : RowOwn w x.A x.row x.k) (h2 : NewAt lo x.A) (h3 : ∀ b off q, x.A = some ⟨b, off, q⟩ → some b ≠ v.ownBlock ∧ b < w.heap.size) (h4 : x.row.length ≤ 1048576) : RowsNew w lo v (M ++ [x]) := fun y hy => by
  rcases List.mem_append.1 hy with e | e
  · exact h y e
  · rw [List.mem_singleton.1 e]; exact ⟨h1, h2, h3, h4⟩
theorem RowsNew.rows {w : World} {lo : Nat} {v : Value} {M : List IR} (h : RowsNew w lo v M) : RowsAt w w.heap.size M := fun x hx => ⟨(h x hx).1.row, Nat.le_trans (h x hx).2.2.2 (by decide)⟩
theorem elem_item : Elem Tryz.prog 22 67 2 32 := ⟨Tryz.underlying22, by
  obtain ⟨i, hi, hz, hs, hb⟩ := info_parts (P := Tryz.prog) (e := 67) (z := .agg #[.slice none 0 0, .int .i64 0]) (size := 2) (bytes := 32) (by kernel_rfl)
  exact ⟨i, _, hi, hz, hs, hb, rfl⟩, by decide⟩

/-- A list of items of a call's own making. -/
def ItsPost (S : List It) (w : World) (e : Ending) (w' : World) : Prop :=
  ∃ (A : Option Addr) (k : Nat) (M : List IR), e = .returned (.slice A M.length k) ∧ its M = S ∧ w'.ownsRow w.heap.size 67 2 (.slice A M.length k) M.length (rcells M) ∧ RowsNew w' w.heap.size (.slice A M.length k) M ∧ Below w.heap.size w w'
/-- A list of items of a call's own making, and an error. -/
def ItsErr (S : List It) (x : Int) (w : World) (e : Ending) (w' : World) : Prop :=
  ∃ (A : Option Addr) (k : Nat) (M : List IR), e = .returned (.tuple #[.slice A M.length k, .int .i64 x]) ∧ its M = S ∧ w'.ownsRow w.heap.size 67 2 (.slice A M.length k) M.length (rcells M) ∧ RowsNew w' w.heap.size (.slice A M.length k) M ∧ Below w.heap.size w w'
theorem itsErr_nil {w w' : World} {x : Int} (hb : Below w.heap.size w w') : ItsErr [] x w (.returned (.tuple #[.slice none 0 0, .int .i64 x])) w' :=
  ⟨none, 0, [], rfl, rfl, World.ownsRow_nil _ _ _ _, RowsNew.nil _ _ _, hb⟩
theorem itsErr_nil' {S : List It} {w w' : World} {x y : Int} (hS : S = []) (hx : y = x) (hb : Below w.heap.size w w') : ItsErr S y w (.returned (.tuple #[.slice none 0 0, .int .i64 x])) w' := by
  subst hS hx; exact itsErr_nil hb
theorem its_len (M : List IR) : (its M).length = M.length := List.length_map ..
theorem rcells_snoc (M : List IR) (x : IR) : rcells (M ++ [x]) = rcells M ++ x.cells := by rw [rcells, List.flatMap_append]; simp
end Go.Proofs.YtldlmkfigjicgaaGreatDoor
