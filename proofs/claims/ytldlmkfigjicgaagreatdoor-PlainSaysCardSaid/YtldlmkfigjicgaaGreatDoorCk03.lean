/- StbP, ZsP, Itm, SetP, ZsR, ZsO, ZsW, ZsE -/
import Derived.Sort.LotA
import Derived.IntWalk
import Derived.Test.YtldlmkfigjicgaaGreatDoorRows
import Derived.Test.YtldlmkfigjicgaaGreatDoorCk01
import Derived.Shelf.SlSortCmp.KitK
import Derived.Deep.CutBlock
import Derived.Deep.CutRange
/- slices.SortStableFunc: what its loops do to an array (plain: no program in sight). -/
namespace Go.Proofs.YtldlmkfigjicgaaGreatDoor
set_option linter.unusedVariables false
set_option linter.unusedSectionVars false
open Go.Sort
variable {α : Type} [Inhabited α] {lt : α → α → Bool}

theorem perm_refl (d : Array α) (a b : Nat) : PermIn a b d d := permIn_refl d a b
theorem perm_trans {d d' d'' : Array α} {a b : Nat} (h : PermIn a b d d') (h' : PermIn a b d' d'') : PermIn a b d d'' := permIn_trans d d' d'' a b h h'
theorem perm_mono {d d' : Array α} {a b a' b' : Nat} (ha : a' ≤ a) (hb : b ≤ b') (hs : b' ≤ d.size) (h : PermIn a b d d') : PermIn a' b' d d' := permIn_mono d d' a b a' b' ha hb hs h
theorem perm_swp {d : Array α} {a b i j : Nat} (hai : a ≤ i) (hib : i < b) (haj : a ≤ j) (hjb : j < b) (hb : b ≤ d.size) : PermIn a b d (swp d i j) := swp_permIn d a b i j hai hib haj hjb hb
theorem sorted_congr {a b : Nat} {d d' : Array α} (hs : SortedIn lt a b d) (h : ∀ i, a ≤ i → i < b → d'[i]! = d[i]!) : SortedIn lt a b d' := fun i j hi hij hj => by
  rw [h i hi (by omega), h j (by omega) hj]; exact hs i j hi hij hj
theorem swo_le (hS : SWO lt) {x y z : α} (h1 : lt y x = false) (h2 : lt z y = false) : lt z x = false := hS.ntrans z y x h2 h1
theorem swo_lt_le (hS : SWO lt) {x y : α} (h : lt x y = true) : lt y x = false := by
  cases hq : lt y x
  · rfl
  · have := hS.trans x y x h hq; rw [hS.irrefl] at this; cases this

/-! swapRange -/
def swapRange (a b : Nat) : Nat → Array α → Array α
  | 0, d => d
  | n + 1, d => swp (swapRange a b n d) (a + n) (b + n)
theorem swapRange_size (a b : Nat) (d : Array α) : ∀ n, (swapRange a b n d).size = d.size
  | 0 => rfl
  | n + 1 => by rw [swapRange, size_swp, swapRange_size a b d n]
theorem swapRange_perm {a b lo hi : Nat} {d : Array α} : ∀ n, lo ≤ a → a + n ≤ hi → lo ≤ b → b + n ≤ hi → hi ≤ d.size → PermIn lo hi d (swapRange a b n d)
  | 0, _, _, _, _, _ => perm_refl d lo hi
  | n + 1, h1, h2, h3, h4, h5 => perm_trans (swapRange_perm n h1 (by omega) h3 (by omega) h5) (perm_swp (by omega) (by omega) (by omega) (by omega) (by rw [swapRange_size]; exact h5))
theorem swapRange_at {a b : Nat} {d : Array α} : ∀ n, a + n ≤ b → b + n ≤ d.size → ∀ x, (swapRange a b n d)[x]! = if a ≤ x ∧ x < a + n then d[x - a + b]! else if b ≤ x ∧ x < b + n then d[x - b + a]! else d[x]!
  | 0, _, _, x => by rw [if_neg (by omega), if_neg (by omega)]; rfl
  | n + 1, h1, h2, x => by
    have ih := swapRange_at n (by omega) (by omega) (a := a) (b := b) (d := d)
    have hs := swapRange_size a b d n
    rw [swapRange]
    by_cases e1 : x = a + n
    · subst e1
      rw [swp_left _ _ _ (by omega) (by omega), ih]
      (repeat' split) <;> first | rfl | omega | (congr 1; omega)
    · by_cases e2 : x = b + n
      · subst e2
        rw [swp_right _ _ _ (by omega), ih]
        (repeat' split) <;> first | rfl | omega | (congr 1; omega)
      · rw [swp_other _ _ _ _ e1 e2, ih]
        (repeat' split) <;> first | rfl | omega | (congr 1; omega)

/-! rotate -/
/-- d' is d with what lies in [lo, m) behind what lies in [m, hi). -/
def Rot (d : Array α) (lo m hi : Nat) (d' : Array α) : Prop :=
  d'.size = d.size ∧ ∀ x, d'[x]! = if lo ≤ x ∧ x < hi then (if x < lo + (hi - m) then d[x + (m - lo)]! else d[x - (hi - m)]!) else d[x]!
theorem rot_none {d : Array α} {lo m hi : Nat} (h1 : lo ≤ m) (h2 : m ≤ hi) (h : lo = m ∨ m = hi) : Rot d lo m hi d := by
  refine ⟨rfl, fun x => ?_⟩
  (repeat' split) <;> first | rfl | omega | (congr 1; omega)
theorem rot_end {d : Array α} {m i : Nat} (h1 : i ≤ m) (h2 : m + i ≤ d.size) : Rot d (m - i) m (m + i) (swapRange (m - i) m i d) := by
  refine ⟨swapRange_size _ _ _ _, fun x => ?_⟩
  rw [swapRange_at i (by omega) h2]
  (repeat' split) <;> first | rfl | omega | (congr 1; omega)
theorem rot_left {d d' : Array α} {m i j : Nat} (h0 : j < i) (h1 : i ≤ m) (h2 : m + j ≤ d.size) (h : Rot (swapRange (m - i) m j d) (m - (i - j)) m (m + j) d') : Rot d (m - i) m (m + j) d' := by
  refine ⟨h.1.trans (swapRange_size _ _ _ _), fun x => ?_⟩
  have hA := swapRange_at (a := m - i) (b := m) (d := d) j (by omega) h2
  rw [h.2 x, hA, hA, hA]
  (repeat' split) <;> first | rfl | omega | (congr 1; omega)
theorem rot_right {d d' : Array α} {m i j : Nat} (h0 : i < j) (h1 : i ≤ m) (h2 : m + j ≤ d.size) (h : Rot (swapRange (m - i) (m + j - i) i d) (m - i) m (m + (j - i)) d') : Rot d (m - i) m (m + j) d' := by
  refine ⟨h.1.trans (swapRange_size _ _ _ _), fun x => ?_⟩
  have hA := swapRange_at (a := m - i) (b := m + j - i) (d := d) i (by omega) (by omega)
  rw [h.2 x, hA, hA, hA]
  (repeat' split) <;> first | rfl | omega | (congr 1; omega)

/-! one element moved on, or back -/
def upTo (a : Nat) : Nat → Array α → Array α
  | 0, d => d
  | t + 1, d => swp (upTo a t d) (a + t) (a + t + 1)
theorem upTo_size (a : Nat) (d : Array α) : ∀ n, (upTo a n d).size = d.size
  | 0 => rfl
  | n + 1 => by rw [upTo, size_swp, upTo_size a d n]
theorem upTo_perm {a lo hi : Nat} {d : Array α} : ∀ n, lo ≤ a → a + n < hi → hi ≤ d.size → PermIn lo hi d (upTo a n d)
  | 0, _, _, _ => perm_refl d lo hi
  | n + 1, h1, h2, h3 => perm_trans (upTo_perm n h1 (by omega) h3) (perm_swp (by omega) (by omega) (by omega) (by omega) (by rw [upTo_size]; exact h3))
theorem upTo_at {a : Nat} {d : Array α} : ∀ n, a + n < d.size → ∀ x, (upTo a n d)[x]! = if a ≤ x ∧ x < a + n then d[x + 1]! else if x = a + n then d[a]! else d[x]!
  | 0, _, x => by
    rw [if_neg (by omega)]
    by_cases e : x = a
    · subst e; simp [upTo]
    · rw [if_neg (by omega)]; rfl
  | n + 1, h, x => by
    have ih := upTo_at n (by omega) (a := a) (d := d)
    have hs := upTo_size a d n
    rw [upTo]
    by_cases e1 : x = a + n
    · subst e1
      rw [swp_left _ _ _ (by omega) (by omega), ih]
      (repeat' split) <;> first | rfl | omega | (congr 1; omega)
    · by_cases e2 : x = a + n + 1
      · subst e2
        rw [swp_right _ _ _ (by omega), ih]
        (repeat' split) <;> first | rfl | omega | (congr 1; omega)
      · rw [swp_other _ _ _ _ e1 e2, ih]
        (repeat' split) <;> first | rfl | omega | (congr 1; omega)
def downTo (m : Nat) : Nat → Array α → Array α
  | 0, d => d
  | t + 1, d => swp (downTo m t d) (m - t) (m - t - 1)
theorem downTo_size (a : Nat) (d : Array α) : ∀ n, (downTo a n d).size = d.size
  | 0 => rfl
  | n + 1 => by rw [downTo, size_swp, downTo_size a d n]
theorem downTo_perm {m lo hi : Nat} {d : Array α} : ∀ n, lo + n ≤ m → m < hi → hi ≤ d.size → PermIn lo hi d (downTo m n d)
  | 0, _, _, _ => perm_refl d lo hi
  | n + 1, h1, h2, h3 => perm_trans (downTo_perm n (by omega) h2 h3) (perm_swp (by omega) (by omega) (by omega) (by omega) (by rw [downTo_size]; exact h3))
theorem downTo_at {m : Nat} {d : Array α} : ∀ n, n ≤ m → m < d.size → ∀ x, (downTo m n d)[x]! = if m - n < x ∧ x ≤ m then d[x - 1]! else if x = m - n then d[m]! else d[x]!
  | 0, _, _, x => by
    rw [if_neg (by omega)]
    by_cases e : x = m
    · subst e; simp [downTo]
    · rw [if_neg (by omega)]; rfl
  | n + 1, h, hm, x => by
    have ih := downTo_at n (by omega) hm (m := m) (d := d)
    have hs := downTo_size m d n
    rw [downTo]
    by_cases e1 : x = m - n
    · subst e1
      rw [swp_left _ _ _ (by omega) (by omega), ih]
      (repeat' split) <;> first | rfl | omega | (congr 1; omega)
    · by_cases e2 : x = m - n - 1
      · subst e2
        rw [swp_right _ _ _ (by omega), ih]
        (repeat' split) <;> first | rfl | omega | (congr 1; omega)
      · rw [swp_other _ _ _ _ e1 e2, ih]
        (repeat' split) <;> first | rfl | omega | (congr 1; omega)

/-! merging -/
theorem merge_up (hS : SWO lt) {d : Array α} {a b i : Nat} (h1 : a + 1 ≤ i) (h2 : i ≤ b) (hb : b ≤ d.size) (hs : SortedIn lt (a + 1) b d) (hl : i = a + 1 ∨ lt d[i - 1]! d[a]! = true) (hr : i = b ∨ lt d[i]! d[a]! = false) :
    PermIn a b d (upTo a (i - 1 - a) d) ∧ SortedIn lt a b (upTo a (i - 1 - a) d) := by
  refine ⟨upTo_perm _ (Nat.le_refl _) (by omega) hb, fun x y hx hxy hy => ?_⟩
  have hA := upTo_at (a := a) (d := d) (i - 1 - a) (by omega)
  rw [hA x, hA y]
  have lo : ∀ z, a + 1 ≤ z → z < i → lt d[a]! d[z]! = false := fun z hz hz2 => by
    have h3 : lt d[i - 1]! d[a]! = true := by rcases hl with h | h; omega; exact h
    by_cases e : z = i - 1
    · subst e; exact swo_lt_le hS h3
    · exact swo_le hS (hs z (i - 1) hz (by omega) (by omega)) (swo_lt_le hS h3)
  have hi : ∀ z, i ≤ z → z < b → lt d[z]! d[a]! = false := fun z hz hz2 => by
    have h3 : lt d[i]! d[a]! = false := by rcases hr with h | h; omega; exact h
    by_cases e : z = i
    · subst e; exact h3
    · exact swo_le hS h3 (hs i z (by omega) (by omega) (by omega))
  by_cases c1 : a ≤ x ∧ x < a + (i - 1 - a)
  · rw [if_pos c1]
    by_cases c2 : a ≤ y ∧ y < a + (i - 1 - a)
    · rw [if_pos c2]; exact hs _ _ (by omega) (by omega) (by omega)
    · rw [if_neg c2]
      by_cases c3 : y = a + (i - 1 - a)
      · rw [if_pos c3]; exact lo _ (by omega) (by omega)
      · rw [if_neg c3]; exact hs _ _ (by omega) (by omega) (by omega)
  · rw [if_neg c1, if_neg (by omega), if_neg (by omega)]
    by_cases c3 : x = a + (i - 1 - a)
    · rw [if_pos c3]; exact hi _ (by omega) (by omega)
    · rw [if_neg c3]; exact hs _ _ (by omega) (by omega) (by omega)
theorem merge_down (hS : SWO lt) {d : Array α} {a m i : Nat} (h1 : a ≤ i) (h2 : i ≤ m) (hb : m + 1 ≤ d.size) (hs : SortedIn lt a m d) (hl : i = a ∨ lt d[m]! d[i - 1]! = false) (hr : i = m ∨ lt d[m]! d[i]! = true) :
    PermIn a (m + 1) d (downTo m (m - i) d) ∧ SortedIn lt a (m + 1) (downTo m (m - i) d) := by
  refine ⟨downTo_perm _ (by omega) (by omega) hb, fun x y hx hxy hy => ?_⟩
  have hA := downTo_at (m := m) (d := d) (m - i) (by omega) (by omega)
  rw [hA x, hA y]
  have lo : ∀ z, a ≤ z → z < i → lt d[m]! d[z]! = false := fun z hz hz2 => by
    have h3 : lt d[m]! d[i - 1]! = false := by rcases hl with h | h; omega; exact h
    by_cases e : z = i - 1
    · subst e; exact h3
    · exact swo_le hS (hs z (i - 1) hz (by omega) (by omega)) h3
  have hi : ∀ z, i ≤ z → z < m → lt d[z]! d[m]! = false := fun z hz hz2 => by
    have h3 : lt d[m]! d[i]! = true := by rcases hr with h | h; omega; exact h
    by_cases e : z = i
    · subst e; exact swo_lt_le hS h3
    · exact swo_le hS (swo_lt_le hS h3) (hs i z (by omega) (by omega) (by omega))
  by_cases c1 : m - (m - i) < x ∧ x ≤ m
  · rw [if_pos c1, if_pos (by omega)]; exact hs _ _ (by omega) (by omega) (by omega)
  · rw [if_neg c1]
    by_cases c3 : x = m - (m - i)
    · rw [if_pos c3]
      by_cases c2 : m - (m - i) < y ∧ y ≤ m
      · rw [if_pos c2]; exact hi _ (by omega) (by omega)
      · omega
    · rw [if_neg c3]
      by_cases c2 : m - (m - i) < y ∧ y ≤ m
      · rw [if_pos c2]; exact hs _ _ (by omega) (by omega) (by omega)
      · rw [if_neg c2]
        by_cases c4 : y = m - (m - i)
        · rw [if_pos c4]; exact lo _ (by omega) (by omega)
        · rw [if_neg c4]; exact hs _ _ (by omega) (by omega) (by omega)
theorem sorted_two (hS : SWO lt) {d : Array α} {a m b : Nat} (hl : SortedIn lt a m d) (hr : SortedIn lt m b d) (hc : ∀ x y, a ≤ x → x < m → m ≤ y → y < b → lt d[y]! d[x]! = false) : SortedIn lt a b d := fun x y hx hxy hy => by
  by_cases h1 : y < m
  · exact hl x y hx hxy h1
  · by_cases h2 : m ≤ x
    · exact hr x y h2 hxy hy
    · exact hc x y hx (by omega) (by omega) hy
/-- Behind the rotation each half is two sorted parts, and nothing of the first half is more than what is in the second. -/
theorem merge_rot (hS : SWO lt) {d d1 : Array α} {a s m e b mid : Nat} (h1 : a ≤ s) (h2 : s ≤ m) (h3 : m ≤ e) (h4 : e ≤ b) (hm : s + e = mid + m) (hb : b ≤ d.size)
    (hl : SortedIn lt a m d) (hr : SortedIn lt m b d) (hR : Rot d s m e d1)
    (c1 : s = a ∨ e = b ∨ lt d[e]! d[s - 1]! = false) (c2 : s = m ∨ e = m ∨ lt d[e - 1]! d[s]! = true) :
    SortedIn lt a s d1 ∧ SortedIn lt s mid d1 ∧ SortedIn lt mid e d1 ∧ SortedIn lt e b d1 ∧ ∀ x y, a ≤ x → x < mid → mid ≤ y → y < b → lt d1[y]! d1[x]! = false := by
  have g := hR.2
  have a1 : ∀ x, x < s → d1[x]! = d[x]! := fun x hx => by rw [g, if_neg (by omega)]
  have a2 : ∀ x, s ≤ x → x < mid → d1[x]! = d[x + (m - s)]! := fun x hx hx2 => by rw [g, if_pos (by omega), if_pos (by omega)]
  have a3 : ∀ x, mid ≤ x → x < e → d1[x]! = d[x - (e - m)]! := fun x hx hx2 => by rw [g, if_pos (by omega), if_neg (by omega)]
  have a4 : ∀ x, e ≤ x → d1[x]! = d[x]! := fun x hx => by rw [g, if_neg (by omega)]
  have le_l : ∀ x y, a ≤ x → x ≤ y → y < m → lt d[y]! d[x]! = false := fun x y hx hxy hy => by
    by_cases e : x = y
    · subst e; exact hS.irrefl _
    · exact hl x y hx (by omega) hy
  have le_r : ∀ x y, m ≤ x → x ≤ y → y < b → lt d[y]! d[x]! = false := fun x y hx hxy hy => by
    by_cases e : x = y
    · subst e; exact hS.irrefl _
    · exact hr x y hx (by omega) hy
  refine ⟨fun x y hx hxy hy => ?_, fun x y hx hxy hy => ?_, fun x y hx hxy hy => ?_, fun x y hx hxy hy => ?_, fun x y hx hxm hmy hy => ?_⟩
  · rw [a1 x (by omega), a1 y hy]; exact hl _ _ hx hxy (by omega)
  · rw [a2 x hx (by omega), a2 y (by omega) hy]; exact hr _ _ (by omega) (by omega) (by omega)
  · rw [a3 x hx (by omega), a3 y (by omega) hy]; exact hl _ _ (by omega) (by omega) (by omega)
  · rw [a4 x hx, a4 y (by omega)]; exact hr _ _ (by omega) (by omega) hy
  · by_cases cx : x < s
    · rw [a1 x cx]
      by_cases cy : y < e
      · rw [a3 y hmy cy]; exact le_l _ _ hx (by omega) (by omega)
      · rw [a4 y (by omega)]
        have h5 : lt d[e]! d[s - 1]! = false := by rcases c1 with h | h | h; omega; omega; exact h
        exact swo_le hS (swo_le hS (le_l x (s - 1) hx (by omega) (by omega)) h5) (le_r e y (by omega) (by omega) hy)
    · rw [a2 x (by omega) hxm]
      by_cases cy : y < e
      · rw [a3 y hmy cy]
        have h5 : lt d[e - 1]! d[s]! = true := by rcases c2 with h | h | h; omega; omega; exact h
        exact swo_le hS (swo_le hS (le_r (x + (m - s)) (e - 1) (by omega) (by omega) (by omega)) (swo_lt_le hS h5)) (le_l s (y - (e - m)) (by omega) (by omega) (by omega))
      · rw [a4 y (by omega)]; exact le_r _ _ (by omega) (by omega) hy
/-- Both halves merged. -/
theorem merge_end (hS : SWO lt) {d1 d2 d3 : Array α} {a b mid : Nat} (h1 : a ≤ mid) (h2 : mid ≤ b) (hb : b ≤ d1.size) (hc : ∀ x y, a ≤ x → x < mid → mid ≤ y → y < b → lt d1[y]! d1[x]! = false)
    (hp : PermIn a mid d1 d2) (hs : SortedIn lt a mid d2) (hq : PermIn mid b d2 d3) (ht : SortedIn lt mid b d3) : PermIn a b d1 d3 ∧ SortedIn lt a b d3 := by
  have hz : d2.size = d1.size := hp.1
  refine ⟨perm_trans (perm_mono (Nat.le_refl _) h2 hb hp) (perm_mono h1 (Nat.le_refl _) (by omega) hq), sorted_two hS (sorted_congr hs fun i _ hi => hq.2.1 i (.inl hi)) ht fun x y hx hxm hmy hy => ?_⟩
  rw [hq.2.1 x (.inl hxm)]
  have k1 : ∀ j, mid ≤ j → j < b → ∀ i, a ≤ i → i < mid → lt d1[j]! d2[i]! = false := fun j hj hj2 i hi him =>
    permIn_all d1 d2 a mid (fun v => lt d1[j]! v = false) (by omega) hp (fun i hi him => hc i j hi him hj hj2) i hi him
  exact permIn_all d2 d3 mid b (fun v => lt v d2[x]! = false) (by omega) hq (fun j hj hj2 => by rw [hp.2.1 j (.inr hj)]; exact k1 j hj hj2 x hx hxm) y hmy hy

/-! blocks -/
/-- Each block of k elements of [0, a) is sorted (a: a multiple of k). -/
def Blocks (lt : α → α → Bool) (k a : Nat) (d : Array α) : Prop := ∀ q, (q + 1) * k ≤ a → SortedIn lt (q * k) ((q + 1) * k) d
/-- Each block of k elements of [0, n) is sorted, the last one too. -/
def BlocksTo (lt : α → α → Bool) (k n : Nat) (d : Array α) : Prop := ∀ q, SortedIn lt (q * k) (min ((q + 1) * k) n) d
theorem sorted_part {d : Array α} {a b a' b' : Nat} (h : SortedIn lt a b d) (ha : a ≤ a') (hb : b' ≤ b) : SortedIn lt a' b' d := fun i j hi hij hj => h i j (by omega) hij (by omega)
theorem sorted_perm {d d' : Array α} {a b lo hi : Nat} (h : SortedIn lt a b d) (hp : PermIn lo hi d d') (ho : b ≤ lo ∨ hi ≤ a) : SortedIn lt a b d' := sorted_congr h fun i h1 h2 => hp.2.1 i (by omega)
theorem blocks_more {d d' : Array α} {k t : Nat} (h : Blocks lt k (t * k) d) (hp : PermIn (t * k) (t * k + k) d d') (hs : SortedIn lt (t * k) (t * k + k) d') : Blocks lt k (t * k + k) d' := fun q hq => by
  by_cases e : q = t
  · subst e; rw [Nat.succ_mul]; exact hs
  · have hqt : (q + 1) * k ≤ t * k := by
      by_cases hk : k = 0
      · subst hk; simp
      · have : (q + 1) * k ≤ (t + 1) * k := by rw [Nat.succ_mul t k]; exact hq
        have := Nat.le_of_mul_le_mul_right this (by omega)
        exact Nat.mul_le_mul_right k (by omega)
    exact sorted_perm (h q hqt) hp (.inl hqt)
theorem blocks_end {d d' : Array α} {k t n : Nat} (hk : 0 < k) (h : Blocks lt k (t * k) d) (h1 : t * k ≤ n) (h2 : n < t * k + k) (hp : PermIn (t * k) n d d') (hs : SortedIn lt (t * k) n d') : BlocksTo lt k n d' := fun q => by
  by_cases e : q < t
  · have hqt : (q + 1) * k ≤ t * k := Nat.mul_le_mul_right k (by omega)
    exact sorted_part (sorted_perm (h q hqt) hp (.inl hqt)) (Nat.le_refl _) (Nat.min_le_left _ _)
  · have : t * k ≤ q * k := Nat.mul_le_mul_right k (by omega)
    exact sorted_part hs this (Nat.min_le_right _ _)
/-- What a pass of merges keeps: blocks of 2k in [0, a), blocks of k behind. -/
def Pass (lt : α → α → Bool) (k t n : Nat) (d : Array α) : Prop := Blocks lt (2 * k) (t * (2 * k)) d ∧ ∀ q, t * (2 * k) ≤ q * k → SortedIn lt (q * k) (min ((q + 1) * k) n) d
theorem pass_start {d : Array α} {k n : Nat} (h : BlocksTo lt k n d) (hk : 0 < k) : Pass lt k 0 n d := ⟨fun q hq => by
  exfalso; rw [Nat.succ_mul] at hq; omega, fun q _ => h q⟩
theorem pass_parts {d : Array α} {k t n : Nat} (h : Pass lt k t n d) (hn : t * (2 * k) + 2 * k ≤ n) : SortedIn lt (t * (2 * k)) (t * (2 * k) + k) d ∧ SortedIn lt (t * (2 * k) + k) (t * (2 * k) + 2 * k) d := by
  have e1 : 2 * t * k = t * (2 * k) := by rw [Nat.mul_comm 2 t, Nat.mul_assoc]
  have e2 : (2 * t + 1) * k = t * (2 * k) + k := by rw [Nat.succ_mul, e1]
  have e3 : (2 * t + 1 + 1) * k = t * (2 * k) + 2 * k := by rw [Nat.succ_mul, e2]; omega
  have p := h.2 (2 * t) (by omega)
  have q := h.2 (2 * t + 1) (by omega)
  rw [e1, e2, Nat.min_eq_left (by omega)] at p
  rw [e2, e3, Nat.min_eq_left (by omega)] at q
  exact ⟨p, q⟩
theorem pass_last {d : Array α} {k t n : Nat} (h : Pass lt k t n d) (hn : t * (2 * k) + k < n) (hn2 : n < t * (2 * k) + 2 * k) : SortedIn lt (t * (2 * k)) (t * (2 * k) + k) d ∧ SortedIn lt (t * (2 * k) + k) n d := by
  have e1 : 2 * t * k = t * (2 * k) := by rw [Nat.mul_comm 2 t, Nat.mul_assoc]
  have e2 : (2 * t + 1) * k = t * (2 * k) + k := by rw [Nat.succ_mul, e1]
  have e3 : (2 * t + 1 + 1) * k = t * (2 * k) + 2 * k := by rw [Nat.succ_mul, e2]; omega
  have p := h.2 (2 * t) (by omega)
  have q := h.2 (2 * t + 1) (by omega)
  rw [e1, e2, Nat.min_eq_left (by omega)] at p
  rw [e2, e3, Nat.min_eq_right (by omega)] at q
  exact ⟨p, q⟩
theorem pass_short {d : Array α} {k t n : Nat} (h : Pass lt k t n d) (hn : n ≤ t * (2 * k) + k) : SortedIn lt (t * (2 * k)) n d := by
  have e1 : 2 * t * k = t * (2 * k) := by rw [Nat.mul_comm 2 t, Nat.mul_assoc]
  have e2 : (2 * t + 1) * k = t * (2 * k) + k := by rw [Nat.succ_mul, e1]
  have p := h.2 (2 * t) (by omega)
  rw [e1, e2, Nat.min_eq_right (by omega)] at p
  exact p
theorem pass_more {d d' : Array α} {k t n : Nat} (h : Pass lt k t n d) (hp : PermIn (t * (2 * k)) (t * (2 * k) + 2 * k) d d') (hs : SortedIn lt (t * (2 * k)) (t * (2 * k) + 2 * k) d') : Pass lt k (t + 1) n d' := by
  have e : (t + 1) * (2 * k) = t * (2 * k) + 2 * k := Nat.succ_mul t (2 * k)
  refine ⟨by rw [e]; exact blocks_more h.1 hp hs, fun q hq => ?_⟩
  rw [e] at hq
  exact sorted_perm (h.2 q (by omega)) hp (.inr hq)
theorem pass_end {d d' : Array α} {k t n : Nat} (hk : 0 < k) (h : Pass lt k t n d) (h1 : t * (2 * k) ≤ n) (h2 : n < t * (2 * k) + 2 * k) (hp : PermIn (t * (2 * k)) n d d') (hs : SortedIn lt (t * (2 * k)) n d') : BlocksTo lt (2 * k) n d' :=
  blocks_end (by omega) h.1 h1 h2 hp hs
theorem blocks_all {d : Array α} {k n : Nat} (h : BlocksTo lt k n d) (hn : n ≤ k) : SortedIn lt 0 n d := by
  have := h 0
  rw [Nat.zero_mul, Nat.zero_add, Nat.one_mul, Nat.min_eq_right hn] at this
  exact this
end Go.Proofs.YtldlmkfigjicgaaGreatDoor
/- Sets with weights: the plain law of zset.Sum (grouping what is sorted), by weights. No program in sight. -/
namespace Go.Proofs.YtldlmkfigjicgaaGreatDoor
set_option linter.unusedVariables false
set_option linter.unusedSectionVars false
open Go.Sort

/-! rows in order -/
def cmpL : List Int → List Int → Int
  | [], [] => 0
  | [], _ :: _ => -1
  | _ :: _, [] => 1
  | a :: x, b :: y => if a < b then -1 else if b < a then 1 else cmpL x y
theorem cmpL_range : ∀ a b, cmpL a b = -1 ∨ cmpL a b = 0 ∨ cmpL a b = 1
  | [], [] => .inr (.inl rfl)
  | [], _ :: _ => .inl rfl
  | _ :: _, [] => .inr (.inr rfl)
  | a :: x, b :: y => by
    unfold cmpL
    split
    · exact .inl rfl
    · split
      · exact .inr (.inr rfl)
      · exact cmpL_range x y
theorem cmpL_self : ∀ a, cmpL a a = 0
  | [] => rfl
  | a :: x => by unfold cmpL; rw [if_neg (by omega), if_neg (by omega)]; exact cmpL_self x
theorem cmpL_eq : ∀ a b, cmpL a b = 0 → a = b
  | [], [], _ => rfl
  | [], _ :: _, h => by simp [cmpL] at h
  | _ :: _, [], h => by simp [cmpL] at h
  | a :: x, b :: y, h => by
    unfold cmpL at h
    split at h
    · omega
    · split at h
      · omega
      · rw [cmpL_eq x y h, show a = b by omega]
theorem cmpL_neg : ∀ a b, cmpL b a = - cmpL a b
  | [], [] => rfl
  | [], _ :: _ => rfl
  | _ :: _, [] => rfl
  | a :: x, b :: y => by
    unfold cmpL
    by_cases h1 : a < b
    · rw [if_neg (by omega), if_pos h1, if_pos h1]; rfl
    · by_cases h2 : b < a
      · rw [if_pos h2, if_neg h1, if_pos h2]
      · rw [if_neg h2, if_neg h1, if_neg h1, if_neg h2]; exact cmpL_neg x y
theorem cmpL_trans : ∀ a b c, cmpL a b ≤ 0 → cmpL b c ≤ 0 → cmpL a c ≤ 0 ∧ (cmpL a c = 0 → cmpL a b = 0 ∧ cmpL b c = 0)
  | [], [], c, h1, h2 => ⟨h2, fun h => ⟨rfl, h⟩⟩
  | [], b :: y, [], h1, h2 => by simp [cmpL] at h2
  | [], b :: y, c :: z, h1, h2 => ⟨by simp [cmpL], fun h => by simp [cmpL] at h⟩
  | a :: x, [], c, h1, h2 => by simp [cmpL] at h1
  | a :: x, b :: y, [], h1, h2 => by simp [cmpL] at h2
  | a :: x, b :: y, c :: z, h1, h2 => by
    unfold cmpL at h1 h2 ⊢
    by_cases e1 : a < b
    · by_cases e2 : b < c
      · rw [if_pos (by omega)]; exact ⟨by omega, fun h => by omega⟩
      · by_cases e3 : c < b
        · rw [if_neg e2, if_pos e3] at h2; omega
        · rw [if_pos (by omega)]; exact ⟨by omega, fun h => by omega⟩
    · by_cases e1' : b < a
      · rw [if_neg e1, if_pos e1'] at h1; omega
      · rw [if_neg e1, if_neg e1'] at h1
        have : a = b := by omega
        subst this
        by_cases e2 : a < c
        · rw [if_pos e2]; exact ⟨by omega, fun h => by omega⟩
        · by_cases e3 : c < a
          · rw [if_neg e2, if_pos e3] at h2; omega
          · rw [if_neg e2, if_neg e3] at h2
            rw [if_neg e2, if_neg e3, if_neg (by omega), if_neg (by omega)]
            have := cmpL_trans x y z h1 h2
            rw [if_neg e2, if_neg e3]
            exact this
theorem cmpL_lt_le {a b c : List Int} (h1 : cmpL a b < 0) (h2 : cmpL b c ≤ 0) : cmpL a c < 0 := by
  have := cmpL_trans a b c (by omega) h2
  omega
theorem cmpL_le_lt {a b c : List Int} (h1 : cmpL a b ≤ 0) (h2 : cmpL b c < 0) : cmpL a c < 0 := by
  have := cmpL_trans a b c h1 (by omega)
  omega

/-- An item: its row, how many times. -/
abbrev It := List Int × Int
abbrev itLt (x y : It) : Bool := decide (cmpL x.1 y.1 < 0)
theorem swo_it : SWO itLt where
  irrefl x := by simp [itLt, cmpL_self]
  trans x y z h1 h2 := by
    simp only [itLt, decide_eq_true_eq] at *
    exact cmpL_lt_le h1 (by omega)
  ntrans x y z h1 h2 := by
    simp only [itLt, decide_eq_false_iff_not] at *
    have a1 := cmpL_neg x.1 y.1
    have a2 := cmpL_neg y.1 z.1
    have a3 := cmpL_neg x.1 z.1
    have := (cmpL_trans z.1 y.1 x.1 (by omega) (by omega)).1
    omega

/-! weights -/
abbrev wrp (n : Int) : Int := IntKind.i64.wrap n
theorem wrp_add (a b : Int) : wrp (wrp a + b) = wrp (a + b) := by simp only [wrp, IntKind.wrap_i64]; omega
theorem wrp_add' (a b : Int) : wrp (a + wrp b) = wrp (a + b) := by simp only [wrp, IntKind.wrap_i64]; omega
theorem wrp_wrp (a : Int) : wrp (wrp a) = wrp a := by simp only [wrp, IntKind.wrap_i64]; omega
theorem wrp_in (a : Int) : -9223372036854775808 ≤ wrp a ∧ wrp a ≤ 9223372036854775807 := by simp only [wrp, IntKind.wrap_i64]; omega
theorem wrp_id {a : Int} (h : -9223372036854775808 ≤ a ∧ a ≤ 9223372036854775807) : wrp a = a := IntWalk.i64_in a h
/-- How many times a row is in a list, in all. -/
def tot (r : List Int) : List It → Int
  | [] => 0
  | x :: l => (if x.1 = r then x.2 else 0) + tot r l
abbrev wt (l : List It) (r : List Int) : Int := wrp (tot r l)
theorem tot_app (r : List Int) : ∀ a b, tot r (a ++ b) = tot r a + tot r b
  | [], b => by simp [tot]
  | x :: a, b => by simp only [List.cons_append, tot, tot_app r a b]; omega
theorem tot_perm {r : List Int} {a b : List It} (h : a.Perm b) : tot r a = tot r b := by
  induction h with
  | nil => rfl
  | cons x _ ih => simp only [tot, ih]
  | swap x y l => simp only [tot]; omega
  | trans _ _ h1 h2 => exact h1.trans h2
theorem tot_none {r : List Int} : ∀ {l : List It}, (∀ x ∈ l, x.1 ≠ r) → tot r l = 0
  | [], _ => rfl
  | x :: l, h => by
    rw [tot, if_neg (h x (by simp)), tot_none fun y hy => h y (by simp [hy])]; omega
theorem tot_all {r : List Int} : ∀ {l : List It}, (∀ x ∈ l, x.1 = r) → tot r l = (l.map (·.2)).sum
  | [], _ => rfl
  | x :: l, h => by
    rw [tot, if_pos (h x (by simp)), tot_all fun y hy => h y (by simp [hy]), List.map_cons, List.sum_cons]

/-- Rising rows, no weight of 0, each in its bounds. -/
def Strict : List It → Prop
  | [] => True
  | x :: l => x.2 ≠ 0 ∧ wrp x.2 = x.2 ∧ (∀ y ∈ l, cmpL x.1 y.1 < 0) ∧ Strict l
theorem Strict.tail {x : It} {l : List It} (h : Strict (x :: l)) : Strict l := h.2.2.2
theorem strict_wt {x : It} {l : List It} (h : Strict (x :: l)) : wt (x :: l) x.1 = x.2 := by
  have e : tot x.1 l = 0 := tot_none fun y hy e => by
    have := h.2.2.1 y hy
    rw [e, cmpL_self] at this; omega
  unfold wt
  rw [tot, if_pos rfl, e, Int.add_zero]
  exact h.2.1
theorem strict_wt_lt {l : List It} {r : List Int} (h : ∀ y ∈ l, cmpL r y.1 < 0) : wt l r = 0 := by
  unfold wt
  rw [tot_none fun y hy e => by
    have := h y hy
    rw [e, cmpL_self] at this; omega]
  rfl
theorem strict_wt_tail {x : It} {l : List It} (h : Strict (x :: l)) {r : List Int} : wt l r = if r = x.1 then 0 else wt (x :: l) r := by
  by_cases e : r = x.1
  · rw [if_pos e, e]
    exact strict_wt_lt h.2.2.1
  · rw [if_neg e]
    unfold wt
    rw [tot, if_neg (Ne.symm e), Int.zero_add]
/-- Lists that are rising, with the same weights, are the same. -/
theorem strict_ext : ∀ {a b : List It}, Strict a → Strict b → (∀ r, wt a r = wt b r) → a = b
  | [], [], _, _, _ => rfl
  | [], y :: b, _, hb, h => by
    have := h y.1
    rw [strict_wt hb] at this
    exact absurd this.symm hb.1
  | x :: a, [], ha, _, h => by
    have := h x.1
    rw [strict_wt ha] at this
    exact absurd this ha.1
  | x :: a, y :: b, ha, hb, h => by
    have hxy : cmpL x.1 y.1 = 0 := by
      rcases cmpL_range x.1 y.1 with e | e | e
      · have h1 := h x.1
        rw [strict_wt ha, strict_wt_lt (fun z hz => by
          rcases List.mem_cons.1 hz with e1 | e1
          · rw [e1]; omega
          · exact cmpL_lt_le (by omega) (Int.le_of_lt (hb.2.2.1 z e1)))] at h1
        exact absurd h1 ha.1
      · exact e
      · have h1 := h y.1
        have := cmpL_neg x.1 y.1
        rw [strict_wt hb, strict_wt_lt (fun z hz => by
          rcases List.mem_cons.1 hz with e1 | e1
          · rw [e1]; omega
          · exact cmpL_lt_le (by omega) (Int.le_of_lt (ha.2.2.1 z e1)))] at h1
        exact absurd h1.symm hb.1
    have e1 := cmpL_eq _ _ hxy
    have e2 : x.2 = y.2 := by
      have := h x.1
      rw [strict_wt ha, e1, strict_wt hb] at this
      exact this
    have e3 : x = y := Prod.ext e1 e2
    subst e3
    rw [strict_ext ha.tail hb.tail fun r => by rw [strict_wt_tail ha, strict_wt_tail hb, h r]]
theorem strict_app {a b : List It} (ha : Strict a) (hb : Strict b) (h : ∀ x ∈ a, ∀ y ∈ b, cmpL x.1 y.1 < 0) : Strict (a ++ b) := by
  induction a with
  | nil => exact hb
  | cons x a ih =>
    refine ⟨ha.1, ha.2.1, fun y hy => ?_, ih ha.tail fun z hz => h z (by simp [hz])⟩
    rcases List.mem_append.1 hy with e | e
    · exact ha.2.2.1 y e
    · exact h x (by simp) y e
theorem strict_take {l : List It} (h : Strict l) : ∀ n, Strict (l.take n) := by
  induction l with
  | nil => intro n; simp [Strict]
  | cons x l ih =>
    intro n
    cases n with
    | zero => simp [Strict]
    | succ n => exact ⟨h.1, h.2.1, fun y hy => h.2.2.1 y (List.mem_of_mem_take hy), ih h.tail n⟩

/-- What zset.Sum has told of the first k items of a sorted list: rising; of each row of the first k its weight. -/
def Summed (L : List It) (k : Nat) (S : List It) : Prop := Strict S ∧ (∀ r, wt S r = wt (L.take k) r) ∧ ∀ x ∈ S, ∀ i, (hi : i < L.length) → k ≤ i → cmpL x.1 L[i].1 < 0
theorem summed_nil (L : List It) : Summed L 0 [] := ⟨trivial, fun r => rfl, fun x hx => by simp at hx⟩
/-- The rows of a list rise. -/
def Rising (L : List It) : Prop := ∀ i j, (hi : i < L.length) → (hj : j < L.length) → i < j → cmpL L[i].1 L[j].1 ≤ 0
theorem tot_take_succ (r : List Int) (L : List It) {k : Nat} (hk : k < L.length) : tot r (L.take (k + 1)) = tot r (L.take k) + (if L[k].1 = r then L[k].2 else 0) := by
  rw [List.take_succ_eq_append_getElem hk, tot_app]; simp [tot]
/-- A group: items k .. j of one row. -/
def InGroup (L : List It) (k j : Nat) (r : List Int) : Prop := ∀ i, (hi : i < L.length) → k ≤ i → i < j → L[i].1 = r
def grpSum (L : List It) (k : Nat) : Nat → Int
  | 0 => 0
  | n + 1 => wrp (grpSum L k n + (L[k + n]?.map (·.2)).getD 0)
theorem grp_tot {L : List It} {k : Nat} {r : List Int} : ∀ n, k + n ≤ L.length → InGroup L k (k + n) r → wrp (tot r (L.take (k + n))) = wrp (tot r (L.take k) + grpSum L k n) ∧ ∀ q, q ≠ r → tot q (L.take (k + n)) = tot q (L.take k)
  | 0, h, _ => ⟨by simp [grpSum], fun q _ => rfl⟩
  | n + 1, h, hg => by
    obtain ⟨i1, i2⟩ := grp_tot n (by omega) (fun i hi h1 h2 => hg i hi h1 (by omega))
    have hk : k + n < L.length := by omega
    have hr := hg (k + n) hk (by omega) (by omega)
    refine ⟨?_, fun q hq => ?_⟩
    · rw [← Nat.add_assoc, tot_take_succ r L hk, if_pos hr, grpSum, List.getElem?_eq_getElem hk, Option.map_some, Option.getD_some, wrp_add', ← wrp_add, i1, wrp_add]
      congr 1; omega
    · rw [← Nat.add_assoc, tot_take_succ q L hk, if_neg (by rw [hr]; exact Ne.symm hq), i2 q hq]; omega
theorem summed_step {L : List It} (hR : Rising L) {k n : Nat} {S : List It} (hS : Summed L k S) (hn : 0 < n) (hl : k + n ≤ L.length) (r : List Int) (hg : InGroup L k (k + n) r) (ho : ∀ h : k + n < L.length, L[k + n].1 ≠ r) :
    Summed L (k + n) (if grpSum L k n = 0 then S else S ++ [(r, grpSum L k n)]) := by
  obtain ⟨g1, g2⟩ := grp_tot n hl hg
  have hk : k < L.length := by omega
  have hr : L[k].1 = r := hg k hk (Nat.le_refl _) (by omega)
  have h0 : tot r (L.take k) = tot r (L.take k) := rfl
  have hnone : ∀ x ∈ S, cmpL x.1 r < 0 := fun x hx => by rw [← hr]; exact hS.2.2 x hx k hk (Nat.le_refl _)
  have hw0 : wt (L.take k) r = 0 := by
    rw [← hS.2.1 r]
    unfold wt
    rw [tot_none fun y hy e => by
      have := hnone y hy
      rw [e, cmpL_self] at this; omega]
    rfl
  have hin : wrp (grpSum L k n) = grpSum L k n := by
    obtain ⟨m, rfl⟩ : ∃ m, n = m + 1 := ⟨n - 1, by omega⟩
    rw [grpSum, wrp_wrp]
  have hwr : wt (L.take (k + n)) r = grpSum L k n := by
    unfold wt at hw0 ⊢
    rw [g1, ← wrp_add, hw0, Int.zero_add, hin]
  have hafter : ∀ i, (hi : i < L.length) → k + n ≤ i → cmpL r L[i].1 < 0 := fun i hi h => by
    have hkn : k + n < L.length := by omega
    have e1 : cmpL r L[k + n].1 ≤ 0 := by rw [← hr]; exact hR k (k + n) hk hkn (by omega)
    have e2 : cmpL r L[k + n].1 ≠ 0 := fun e => ho hkn (cmpL_eq _ _ e).symm
    by_cases e : i = k + n
    · subst e; omega
    · exact cmpL_lt_le (by omega) (hR (k + n) i hkn hi (by omega))
  have hold : ∀ x ∈ S, ∀ i, (hi : i < L.length) → k + n ≤ i → cmpL x.1 L[i].1 < 0 := fun x hx i hi h => hS.2.2 x hx i hi (by omega)
  by_cases e : grpSum L k n = 0
  · rw [if_pos e]
    refine ⟨hS.1, fun q => ?_, hold⟩
    rw [hS.2.1 q]
    by_cases hq : q = r
    · rw [hq, hw0, hwr, e]
    · unfold wt; rw [g2 q hq]
  · rw [if_neg e]
    refine ⟨strict_app hS.1 ⟨e, hin, by simp, trivial⟩ (fun x hx y hy => by rw [List.mem_singleton.1 hy]; exact hnone x hx), fun q => ?_, fun x hx i hi h => ?_⟩
    · unfold wt
      rw [tot_app, ← wrp_add]
      have := hS.2.1 q
      unfold wt at this
      rw [this]
      by_cases hq : q = r
      · rw [hq]
        unfold wt at hw0 hwr
        rw [hw0, hwr]
        simp [tot, hin]
      · rw [g2 q hq, wrp_add]
        simp [tot, Ne.symm hq]
    · rcases List.mem_append.1 hx with e1 | e1
      · exact hold x e1 i hi h
      · rw [List.mem_singleton.1 e1]; exact hafter i hi h
theorem summed_end {L : List It} {S : List It} (h : Summed L L.length S) : Strict S ∧ ∀ r, wt S r = wt L r := ⟨h.1, fun r => by rw [h.2.1 r, List.take_length]⟩

/-! The one list: what zset.Sum tells. -/
def grpL : Nat → List It → List It
  | 0, _ => []
  | _ + 1, [] => []
  | n + 1, x :: l => let r := x.1; let m := wt (x :: l) r; let rest := grpL n (l.filter (fun y => decide (y.1 ≠ r))); if m = 0 then rest else (r, m) :: rest
/-- Of a list: each row with its weight, in order. -/
def sumL (l : List It) : List It := grpL (l.length + 1) (l.mergeSort (fun x y => !itLt y x))
theorem tot_filter {r q : List Int} (h : q ≠ r) : ∀ l : List It, tot q (l.filter (fun y => decide (y.1 ≠ r))) = tot q l
  | [] => rfl
  | x :: l => by
    rw [List.filter_cons]
    by_cases e : x.1 = r
    · rw [if_neg (by simp [e]), tot_filter h l, tot, if_neg (by rw [e]; exact Ne.symm h)]; omega
    · rw [if_pos (by simp [e]), tot, tot, tot_filter h l]
theorem grpL_mem : ∀ n (l : List It) (z : It), z ∈ grpL n l → ∃ y ∈ l, y.1 = z.1
  | 0, l, z, h => by simp [grpL] at h
  | n + 1, [], z, h => by simp [grpL] at h
  | n + 1, x :: l, z, h => by
    simp only [grpL] at h
    have rest : z ∈ grpL n (l.filter (fun y => decide (y.1 ≠ x.1))) → ∃ y ∈ x :: l, y.1 = z.1 := fun h => by
      obtain ⟨y, hy, e⟩ := grpL_mem n _ z h
      exact ⟨y, by simp [(List.mem_filter.1 hy).1], e⟩
    split at h
    · exact rest h
    · rcases List.mem_cons.1 h with e | e
      · exact ⟨x, by simp, by rw [e]⟩
      · exact rest e
theorem grpL_law : ∀ n (l : List It), l.length < n → l.Pairwise (fun x y => cmpL x.1 y.1 ≤ 0) → Strict (grpL n l) ∧ ∀ r, wt (grpL n l) r = wt l r
  | 0, l, h, _ => by omega
  | n + 1, [], _, _ => ⟨trivial, fun r => rfl⟩
  | n + 1, x :: l, h, hp => by
    have hlen := List.length_filter_le (fun y : It => decide (y.1 ≠ x.1)) l
    simp only [List.length_cons] at h
    obtain ⟨i1, i2⟩ := grpL_law n (l.filter (fun y => decide (y.1 ≠ x.1))) (by omega) ((List.pairwise_cons.1 hp).2.filter _)
    have hlt : ∀ y ∈ grpL n (l.filter (fun y => decide (y.1 ≠ x.1))), cmpL x.1 y.1 < 0 := fun y hy => by
      obtain ⟨z, hz, e⟩ := grpL_mem _ _ _ hy
      obtain ⟨hz1, hz2⟩ := List.mem_filter.1 hz
      have h1 := (List.pairwise_cons.1 hp).1 z hz1
      have h2 : cmpL x.1 z.1 ≠ 0 := fun e => (by simpa using hz2 : z.1 ≠ x.1) (cmpL_eq _ _ e).symm
      rw [← e]; omega
    have hx : ∀ r, r ≠ x.1 → wt (l.filter (fun y => decide (y.1 ≠ x.1))) r = wt (x :: l) r := fun r hr => by
      unfold wt; rw [tot_filter hr, tot, if_neg (Ne.symm hr), Int.zero_add]
    simp only [grpL]
    by_cases e : wt (x :: l) x.1 = 0
    · rw [if_pos e]
      refine ⟨i1, fun r => ?_⟩
      by_cases hr : r = x.1
      · rw [hr, e]; exact strict_wt_lt hlt
      · rw [i2 r, hx r hr]
    · rw [if_neg e]
      refine ⟨⟨e, wrp_wrp _, hlt, i1⟩, fun r => ?_⟩
      by_cases hr : r = x.1
      · rw [hr]; exact strict_wt ⟨e, wrp_wrp _, hlt, i1⟩
      · rw [← hx r hr, ← i2 r]
        unfold wt
        rw [tot, if_neg (Ne.symm hr), Int.zero_add]
theorem sumL_law (l : List It) : Strict (sumL l) ∧ ∀ r, wt (sumL l) r = wt l r := by
  have hs := List.pairwise_mergeSort (le := fun x y : It => !itLt y x) (fun a b c h1 h2 => by
      simp only [Bool.not_eq_true', itLt] at *
      exact swo_le swo_it (x := a) (y := b) (z := c) h1 h2) (fun a b => by
      cases h : itLt b a
      · simp
      · simp [swo_lt_le swo_it h]) l
  obtain ⟨h1, h2⟩ := grpL_law (l.length + 1) (l.mergeSort (fun x y => !itLt y x)) (by simp) (hs.imp fun {a b} h => by
    simp only [Bool.not_eq_true', itLt, decide_eq_false_iff_not] at h
    have := cmpL_neg a.1 b.1
    omega)
  exact ⟨h1, fun r => by unfold sumL; rw [h2 r]; unfold wt; rw [tot_perm (List.mergeSort_perm _ _)]⟩
theorem sumL_eq {l S : List It} (h : Strict S) (hw : ∀ r, wt S r = wt l r) : S = sumL l := strict_ext h (sumL_law l).1 fun r => by rw [hw r, (sumL_law l).2 r]
theorem sumL_wt {a b : List It} (h : ∀ r, wt a r = wt b r) : sumL a = sumL b := sumL_eq (sumL_law a).1 fun r => by rw [(sumL_law a).2 r, h r]
theorem sumL_perm {a b : List It} (h : a.Perm b) : sumL a = sumL b := sumL_wt fun r => by unfold wt; rw [tot_perm h]
theorem summed_sumL {L l S : List It} (hp : L.Perm l) (h : Summed L L.length S) : S = sumL l := by
  obtain ⟨h1, h2⟩ := summed_end h
  exact sumL_eq h1 fun r => by rw [h2 r]; unfold wt; rw [tot_perm hp]
theorem sumL_strict {S : List It} (h : Strict S) : sumL S = S := (sumL_eq h fun r => rfl).symm
theorem sumL_app_sumL (a b : List It) : sumL (sumL a ++ b) = sumL (a ++ b) := sumL_wt fun r => by
  unfold wt; rw [tot_app, tot_app, ← wrp_add, ← wrp_add (tot r a)]
  have := (sumL_law a).2 r
  unfold wt at this
  rw [this]
theorem sumL_comm (a b : List It) : sumL (a ++ b) = sumL (b ++ a) := sumL_wt fun r => by unfold wt; rw [tot_app, tot_app, Int.add_comm]
theorem sumL_mem {l : List It} {z : It} (h : z ∈ sumL l) : ∃ y ∈ l, y.1 = z.1 := by
  obtain ⟨y, hy, e⟩ := grpL_mem _ _ _ h
  exact ⟨y, (List.mergeSort_perm _ _).mem_iff.1 hy, e⟩
theorem grpL_len : ∀ n (l : List It), (grpL n l).length ≤ l.length
  | 0, l => by simp [grpL]
  | n + 1, [] => by simp [grpL]
  | n + 1, x :: l => by
    have h1 := grpL_len n (l.filter (fun y => decide (y.1 ≠ x.1)))
    have h2 := List.length_filter_le (fun y : It => decide (y.1 ≠ x.1)) l
    simp only [grpL]
    split
    · simp only [List.length_cons]; omega
    · simp only [List.length_cons]; omega
theorem sumL_len (l : List It) : (sumL l).length ≤ l.length := by
  have := grpL_len (l.length + 1) (l.mergeSort (fun x y => !itLt y x))
  simpa [sumL] using this
end Go.Proofs.YtldlmkfigjicgaaGreatDoor
/- Items of sets in memory: a row and how many times; lists of ints. -/
namespace Go.Proofs.YtldlmkfigjicgaaGreatDoor
set_option linter.unusedVariables false
open Go.RowKit

/-- An item, and where its row lies. -/
structure IR where
  row : List Int
  A : Option Addr
  k : Nat
  n : Int
instance : Inhabited IR := ⟨⟨[], none, 0, 0⟩⟩
abbrev IR.it (x : IR) : It := (x.row, x.n)
abbrev IR.cells (x : IR) : List Value := [.slice x.A x.row.length x.k, .int .i64 x.n]
abbrev its (L : List IR) : List It := L.map IR.it
abbrev rcells (L : List IR) : List Value := L.flatMap IR.cells
theorem IR.len (x : IR) : x.cells.length = 2 := rfl
theorem rcells_len (L : List IR) : (rcells L).length = L.length * 2 := flat_len IR.len L
theorem rcells_one (L : List IR) : ∀ u ∈ rcells L, u.oneCell' = true := by
  intro u hu
  obtain ⟨x, -, hx⟩ := List.mem_flatMap.1 hu
  simp only [IR.cells, List.mem_cons, List.not_mem_nil, or_false] at hx
  rcases hx with rfl | rfl <;> rfl
abbrev icells' (l : List Int) : List Value := l.map (Value.int .i64)
/-- The rows of the items lie below B. -/
def RowsAt (w : World) (B : Nat) (L : List IR) : Prop := ∀ x ∈ L, Row w B x.A (icells' x.row) ∧ x.row.length ≤ 9223372036854775807
/-- A list of items lies at A, their rows too. -/
def RowI (w : World) (B : Nat) (A : Option Addr) (L : List IR) : Prop := Row w B A (rcells L) ∧ RowsAt w B L
theorem RowsAt.below {w w' : World} {B C : Nat} {L : List IR} (h : RowsAt w B L) (hb : Below C w w') (hB : B ≤ C) : RowsAt w' B L := fun x hx => ⟨(h x hx).1.below hb hB, (h x hx).2⟩
theorem RowsAt.more {w : World} {B C : Nat} {L : List IR} (h : RowsAt w B L) (hB : B ≤ C) : RowsAt w C L := fun x hx => ⟨(h x hx).1.more hB, (h x hx).2⟩
theorem RowsAt.step {w w' : World} {L : List IR} (h : RowsAt w w.heap.size L) (hb : Below w.heap.size w w') : RowsAt w' w'.heap.size L := (h.below hb (Nat.le_refl _)).more hb.size
theorem RowsAt.app {w : World} {B : Nat} {L M : List IR} (h : RowsAt w B L) (h' : RowsAt w B M) : RowsAt w B (L ++ M) := fun x hx => by
  rcases List.mem_append.1 hx with e | e
  · exact h x e
  · exact h' x e
theorem RowsAt.sub {w : World} {B : Nat} {L M : List IR} (h : RowsAt w B L) (hs : ∀ x ∈ M, x ∈ L) : RowsAt w B M := fun x hx => h x (hs x hx)
theorem RowI.step {w w' : World} {A : Option Addr} {L : List IR} (h : RowI w w.heap.size A L) (hb : Below w.heap.size w w') : RowI w' w'.heap.size A L := ⟨h.1.step hb, h.2.step hb⟩
theorem RowI.nil {w : World} {B : Nat} {A : Option Addr} : RowI w B A [] := ⟨Row.nil, fun x hx => by simp at hx⟩
theorem Row.it {w : World} {B : Nat} {A : Option Addr} {L : List IR} (h : Row w B A (rcells L)) {k : Nat} (hk : k < L.length) :
    ∃ b off, A = some ⟨b, off, none⟩ ∧ b < B ∧ w.cell? ⟨b, off + k * 2, none⟩ = some (.slice L[k].A L[k].row.length L[k].k) ∧ w.cell? ⟨b, off + k * 2 + 1, none⟩ = some (.int .i64 L[k].n) := by
  obtain ⟨b, off, h1, h2, h3⟩ := Row.flat IR.len h (by omega) hk
  exact ⟨b, off, h1, h2, h3 0 _ rfl, h3 1 _ rfl⟩
theorem Row.int' {w : World} {B : Nat} {A : Option Addr} {l : List Int} (h : Row w B A (icells' l)) {k : Nat} (hk : k < l.length) :
    ∃ b off, A = some ⟨b, off, none⟩ ∧ b < B ∧ w.cell? ⟨b, off + k, none⟩ = some (.int .i64 l[k]) := by
  obtain ⟨b, off, h1, h2, h3⟩ := h.at_ (show 0 < (icells' l).length by simp; omega)
  exact ⟨b, off, h1, h2, h3 k _ (by simp [hk])⟩
end Go.Proofs.YtldlmkfigjicgaaGreatDoor
/- Sets with weights: what a right set is; what Norm, Add, Neg tell. No program in sight. -/
namespace Go.Proofs.YtldlmkfigjicgaaGreatDoor
set_option linter.unusedVariables false

def farB (n : Int) : Bool := decide (n < -1048576) || decide (1048576 < n)
def outB (n : Int) : Bool := decide (n < -1073741824) || decide (1073741824 < n)
def rowB (r : List Int) : Bool := decide (r.length ≤ 8) && !r.any outB
def badB (x : It) : Bool := !rowB x.1 || farB x.2
/-- Is the i-th item of a list wrong? -/
def zbadAt (L : List It) : Nat → Bool
  | 0 => match L[0]? with | none => false | some x => badB x || decide (x.2 = 0)
  | k + 1 => match L[k]?, L[k + 1]? with | some y, some x => (badB x || decide (x.2 = 0)) || decide (0 ≤ cmpL y.1 x.1) | _, _ => false
def setI (L : List It) : Int := if 400 < L.length then 2 else if (List.range L.length).any (zbadAt L) = true then 5 else 0
theorem badAt_zero {L : List It} (h : 0 < L.length) : zbadAt L 0 = (badB L[0] || decide (L[0].2 = 0)) := by
  rw [zbadAt, List.getElem?_eq_getElem h]
theorem badAt_succ {L : List It} {k : Nat} (h : k + 1 < L.length) : zbadAt L (k + 1) = ((badB L[k + 1] || decide (L[k + 1].2 = 0)) || decide (0 ≤ cmpL L[k].1 L[k + 1].1)) := by
  rw [zbadAt, List.getElem?_eq_getElem h, List.getElem?_eq_getElem (show k < L.length by omega)]

theorem badB_false {x : It} (h : badB x = false) : x.1.length ≤ 8 ∧ -1048576 ≤ x.2 ∧ x.2 ≤ 1048576 := by
  unfold badB rowB farB at h
  simp only [Bool.or_eq_false_iff, Bool.not_eq_false', Bool.and_eq_true, decide_eq_true_eq, decide_eq_false_iff_not] at h
  omega
theorem rise_trans {L : List It} (h : ∀ k, (hk : k + 1 < L.length) → cmpL L[k].1 L[k + 1].1 < 0) : ∀ (d i : Nat) (hd : i + d + 1 < L.length), cmpL L[i].1 L[i + d + 1].1 < 0
  | 0, i, hd => h i hd
  | d + 1, i, hd => cmpL_lt_le (rise_trans h d i (by omega)) (Int.le_of_lt (h (i + d + 1) hd))
theorem strict_of : ∀ {L : List It}, (∀ x ∈ L, x.2 ≠ 0 ∧ wrp x.2 = x.2) → L.Pairwise (fun x y => cmpL x.1 y.1 < 0) → Strict L
  | [], _, _ => trivial
  | x :: L, h, hp => ⟨(h x (by simp)).1, (h x (by simp)).2, fun y hy => (List.pairwise_cons.1 hp).1 y hy, strict_of (fun y hy => h y (by simp [hy])) (List.pairwise_cons.1 hp).2⟩
theorem strict_pair : ∀ {L : List It}, Strict L → L.Pairwise (fun x y => cmpL x.1 y.1 < 0)
  | [], _ => List.Pairwise.nil
  | x :: L, h => List.pairwise_cons.2 ⟨fun y hy => h.2.2.1 y hy, strict_pair h.2.2.2⟩
theorem strict_ne : ∀ {L : List It}, Strict L → ∀ x ∈ L, x.2 ≠ 0
  | x :: L, h, y, hy => by
    rcases List.mem_cons.1 hy with e | e
    · rw [e]; exact h.1
    · exact strict_ne h.2.2.2 y e
/-- A right set. -/
theorem setI_zero {L : List It} : setI L = 0 ↔ L.length ≤ 400 ∧ (∀ x ∈ L, badB x = false) ∧ Strict L := by
  unfold setI
  constructor
  · intro h
    by_cases h4 : 400 < L.length
    · rw [if_pos h4] at h; omega
    · rw [if_neg h4] at h
      by_cases hb : (List.range L.length).any (zbadAt L) = true
      · rw [if_pos hb] at h; omega
      · have hno : ∀ i, i < L.length → zbadAt L i = false := fun i hi => by
          cases hq : zbadAt L i
          · rfl
          · exact absurd (List.any_eq_true.2 ⟨i, List.mem_range.2 hi, hq⟩) hb
        have hx : ∀ i, (hi : i < L.length) → badB L[i] = false ∧ L[i].2 ≠ 0 := fun i hi => by
          have := hno i hi
          cases i with
          | zero => rw [badAt_zero hi] at this; simpa using this
          | succ k => rw [badAt_succ hi] at this; simp at this; exact ⟨this.1.1, this.1.2⟩
        have hr : ∀ k, (hk : k + 1 < L.length) → cmpL L[k].1 L[k + 1].1 < 0 := fun k hk => by
          have := hno (k + 1) hk
          rw [badAt_succ hk] at this; simp at this; exact this.2
        have hb' : ∀ x ∈ L, badB x = false := fun x hxm => by
          obtain ⟨i, hi, rfl⟩ := List.getElem_of_mem hxm
          exact (hx i hi).1
        refine ⟨by omega, hb', strict_of (fun x hxm => ?_) (List.pairwise_iff_getElem.2 fun i j hi hj hij => ?_)⟩
        · obtain ⟨i, hi, rfl⟩ := List.getElem_of_mem hxm
          refine ⟨(hx i hi).2, wrp_id ?_⟩
          have := badB_false (hx i hi).1
          omega
        · have := rise_trans hr (j - i - 1) i (by omega)
          simpa [show i + (j - i - 1) + 1 = j by omega] using this
  · rintro ⟨h1, h2, h3⟩
    rw [if_neg (by omega), if_neg]
    intro hb
    obtain ⟨i, hi, e⟩ := List.any_eq_true.1 hb
    have hi' := List.mem_range.1 hi
    have hp := strict_pair h3
    cases i with
    | zero => rw [badAt_zero hi', h2 _ (List.getElem_mem hi')] at e; simp at e; exact strict_ne h3 _ (List.getElem_mem hi') e
    | succ k =>
      rw [badAt_succ hi', h2 _ (List.getElem_mem hi')] at e
      have hq := List.pairwise_iff_getElem.1 hp k (k + 1) (by omega) hi' (by omega)
      simp at e
      rcases e with e | e
      · exact strict_ne h3 _ (List.getElem_mem hi') e
      · omega
/-- What is wrong with a sum. -/
def doneE (S : List It) : Int := if S.any badB = true then 5 else if 400 < S.length then 2 else 0
def doneX (S : List It) : List It := if doneE S = 0 then S else []
theorem doneE_zero {S : List It} : doneE S = 0 ↔ S.length ≤ 400 ∧ ∀ x ∈ S, badB x = false := by
  unfold doneE
  constructor
  · intro h
    by_cases hb : S.any badB = true
    · rw [if_pos hb] at h; omega
    · rw [if_neg hb] at h
      by_cases h4 : 400 < S.length
      · rw [if_pos h4] at h; omega
      · refine ⟨by omega, fun x hx => ?_⟩
        cases hq : badB x
        · rfl
        · exact absurd (List.any_eq_true.2 ⟨x, hx, hq⟩) hb
  · rintro ⟨h1, h2⟩
    rw [if_neg, if_neg (by omega)]
    intro hb
    obtain ⟨x, hx, e⟩ := List.any_eq_true.1 hb
    rw [h2 x hx] at e; cases e
/-- A sum that is done is a right set. -/
theorem done_set {l : List It} (h : doneE (sumL l) = 0) : setI (sumL l) = 0 := by
  obtain ⟨h1, h2⟩ := doneE_zero.1 h
  exact setI_zero.2 ⟨h1, h2, (sumL_law l).1⟩
def normE (l : List It) : Int := if 400 < l.length then 2 else if l.any badB = true then 5 else doneE (sumL l)
def normX (l : List It) : List It := if normE l = 0 then sumL l else []
def addE (a b : List It) : Int := if setI a ≠ 0 then setI a else if setI b ≠ 0 then setI b else doneE (sumL (a ++ b))
def addX (a b : List It) : List It := if addE a b = 0 then sumL (a ++ b) else []
def negL (l : List It) : List It := l.map (fun x => (x.1, -x.2))
def negX (l : List It) : List It := if setI l = 0 then negL l else []
end Go.Proofs.YtldlmkfigjicgaaGreatDoor
/- Sets with weights: which rows and weights may be; slices.IndexFunc, ContainsFunc at int. -/
namespace Go.Proofs.YtldlmkfigjicgaaGreatDoor
set_option linter.unusedVariables false
set_option linter.unusedSimpArgs false
open Go.ChangeShapes Go.WideShapes Go.ChangeAt Go.RowKit

/-- An index that IndexFunc tells: at least 0 just if there is one. -/
def FoundAt (p : Prop) (w : World) (e : Ending) (w' : World) : Prop := ∃ i : Int, e = .returned (.int .i64 i) ∧ (0 ≤ i ↔ p) ∧ Below w.heap.size w w'
/-- What is asked of a function value: handed an element of the list, in whatever later world, it answers p, and leaves what was there. -/
def PredNt (g : Nat) (caps : Array Value) (p : Int → Bool) (L : List Int) (w : World) : Prop :=
  ∀ w', Below w.heap.size w w' → ∀ x ∈ L, Calls Tryz.prog g (#[.int .i64 x] ++ caps) w' fun e w'' => e = .returned (.bool (p x)) ∧ Below w'.heap.size w' w''
set_option maxHeartbeats 400000 in
set_option maxRecDepth 100000 in
theorem indexNt_any (g : Nat) (caps : Array Value) (p : Int → Bool) (L : List Int) (A : Option Addr) (c : Nat) (w : World) (hr : Row w w.heap.size A (icells' L)) (hl : L.length ≤ 9223372036854775807)
    (eg : ∀ args w, (callFunc g args).run Tryz.prog w = .ok (.enter g args) w) (hp : PredNt g caps p L w) :
    Calls Tryz.prog 92 #[.slice A L.length c, .func (.func g) #[] caps] w (FoundAt (L.any p = true) w) := by
  have HR := hid hr
  clear hr
  go_enter Tryz.func92, Tryz.ntmps92
  go_wp2
  go_loopw [8] (fun i wr => (∃ k : Nat, k ≤ L.length ∧ i = .int .i64 k ∧ ∀ j (h : j < L.length), j < k → p L[j] = false) ∧ Below w.heap.size w wr) (fun i _ => L.length - (intOf i).toNat)
  case atStart => exact ⟨⟨0, by omega, rfl, fun j _ h => absurd h (by omega)⟩, Below.refl _ _⟩
  case round =>
    obtain ⟨⟨k, hk, rfl, hno⟩, hbw⟩ := hrel
    by_cases hlt : k < L.length
    · obtain ⟨b, off, rfl, hb, h0⟩ := (HR.out.below hbw (Nat.le_refl _)).int' hlt
      have hc := hp wr hbw L[k] (List.getElem_mem _)
      have HN := hid hno
      have HB := hid hbw
      have HC := hid hc
      clear hno hbw hc
      generalize hd : L[k] = d at *
      have HD := hid hd
      clear hd
      (try simp only [IR.cells] at h0 HC)
      obtain ⟨pd, hpd⟩ : ∃ b, b = p d := ⟨_, rfl⟩
      rw [← hpd] at HC
      have HP := hid hpd
      clear hpd
      cases pd
      all_goals
        go_wp2_with (refine (HC.out).mono ?_; rintro e w1 ⟨rfl, hb1⟩)
      · go_roundw
        case rel =>
          refine ⟨⟨k + 1, by omega, by go_num, fun j h hj => ?_⟩, HB.out.trans (hb1.mono HB.out.size)⟩
          by_cases e : j = k
          · subst e; rw [HD.out]; exact HP.out.symm
          · exact HN.out j h (by omega)
        case measure => simp [intOf]; omega
      · go_ret
        refine ⟨k, rfl, iff_of_true (by omega) (List.any_eq_true.2 ⟨L[k], List.getElem_mem _, by rw [HD.out]; exact HP.out.symm⟩), HB.out.trans (hb1.mono HB.out.size)⟩
    · go_wp2
      go_ret
      refine ⟨-1, rfl, iff_of_false (by omega) ?_, hbw⟩
      intro hm
      obtain ⟨d, hd, e⟩ := List.any_eq_true.1 hm
      obtain ⟨j, hj, rfl⟩ := List.getElem_of_mem hd
      rw [hno j hj (by omega)] at e
      cases e
theorem containsNt_any (g : Nat) (caps : Array Value) (p : Int → Bool) (L : List Int) (A : Option Addr) (c : Nat) (w : World) (hr : Row w w.heap.size A (icells' L)) (hl : L.length ≤ 9223372036854775807)
    (eg : ∀ args w, (callFunc g args).run Tryz.prog w = .ok (.enter g args) w) (hp : PredNt g caps p L w) :
    Calls Tryz.prog 68 #[.slice A L.length c, .func (.func g) #[] caps] w fun e w' => e = .returned (.bool (L.any p)) ∧ Below w.heap.size w w' := by
  have H := indexNt_any g caps p L A c w hr hl eg hp
  have HR := hid hr
  have HP := hid hp
  clear hr eg hp
  go_enter Tryz.func68, Tryz.ntmps68
  go_wp2_with (go_at_call 92; refine H.mono ?_; rintro e w' ⟨i, rfl, hi, hb⟩)
  go_ret
  refine ⟨ret_bool ?_, hb⟩
  first
    | (rw [Bool.eq_iff_iff, decide_eq_true_eq]; exact hi)
    | (rw [Bool.eq_iff_iff, decide_eq_true_eq, List.any_eq_true])

theorem far_any (n : Int) (w : World) : Calls Tryz.prog 34 #[.int .i64 n] w fun e w' => e = .returned (.bool (farB n)) ∧ w = w' := by
  obtain ⟨R, hR⟩ : ∃ R, R = farB n := ⟨_, rfl⟩
  rw [← hR]
  have HR := hid hR
  clear hR
  by_cases h1 : n < -1048576
  · go_enter Tryz.func34, Tryz.ntmps34
    go_wp2
    go_ret
    exact ⟨ret_bool (by rw [HR.out]; unfold farB; rw [decide_eq_true h1]; rfl), rfl⟩
  · by_cases h2 : 1048576 < n
    · go_enter Tryz.func34, Tryz.ntmps34
      go_wp2
      go_ret
      exact ⟨ret_bool (by rw [HR.out]; unfold farB; rw [decide_eq_true h2]; simp), rfl⟩
    · go_enter Tryz.func34, Tryz.ntmps34
      go_wp2
      go_ret
      exact ⟨ret_bool (by rw [HR.out]; unfold farB; rw [decide_eq_false (by omega), decide_eq_false (by omega)]; rfl), rfl⟩
theorem row1_any (n : Int) (w : World) : Calls Tryz.prog 69 #[.int .i64 n] w fun e w' => e = .returned (.bool (outB n)) ∧ w = w' := by
  obtain ⟨R, hR⟩ : ∃ R, R = outB n := ⟨_, rfl⟩
  rw [← hR]
  have HR := hid hR
  clear hR
  by_cases h1 : n < -1073741824
  · go_enter Tryz.func69, Tryz.ntmps69
    go_wp2
    go_ret
    exact ⟨ret_bool (by rw [HR.out]; unfold outB; rw [decide_eq_true h1]; rfl), rfl⟩
  · by_cases h2 : 1073741824 < n
    · go_enter Tryz.func69, Tryz.ntmps69
      go_wp2
      go_ret
      exact ⟨ret_bool (by rw [HR.out]; unfold outB; rw [decide_eq_true h2]; simp), rfl⟩
    · go_enter Tryz.func69, Tryz.ntmps69
      go_wp2
      go_ret
      exact ⟨ret_bool (by rw [HR.out]; unfold outB; rw [decide_eq_false (by omega), decide_eq_false (by omega)]; rfl), rfl⟩
theorem enters_row1 : ∀ args w, (callFunc 69 args).run Tryz.prog w = .ok (.enter 69 args) w := enters_of Tryz.func69 (by kernel_rfl) rfl

set_option maxHeartbeats 400000 in
set_option maxRecDepth 100000 in
theorem row_any (r : List Int) (A : Option Addr) (c : Nat) (w : World) (hr : Row w w.heap.size A (icells' r)) (hl : r.length ≤ 9223372036854775807) :
    Calls Tryz.prog 33 #[.slice A r.length c] w fun e w' => e = .returned (.bool (rowB r)) ∧ Below w.heap.size w w' := by
  have HC := hid (containsNt_any 69 #[] outB r A c w hr hl enters_row1 (fun w' hb x hx => (row1_any x w').mono fun e w2 ⟨h1, h2⟩ => ⟨h1, h2 ▸ Below.refl _ _⟩))
  clear hr
  obtain ⟨R, hR⟩ : ∃ R, R = rowB r := ⟨_, rfl⟩
  rw [← hR]
  have HR := hid hR
  clear hR
  obtain ⟨B, hB⟩ : ∃ B, B = r.any outB := ⟨_, rfl⟩
  rw [← hB] at HC
  have HB := hid hB
  clear hB
  by_cases h8 : r.length ≤ 8
  · have h8' : (r.length : Int) ≤ 8 := by omega
    go_enter Tryz.func33, Tryz.ntmps33
    go_wp2_with (go_at_call 68; refine HC.out.mono ?_; rintro e w' ⟨rfl, hb⟩)
    go_ret
    exact ⟨ret_bool (by rw [HR.out]; unfold rowB; rw [decide_eq_true h8, ← HB.out]; rfl), hb⟩
  · have h8' : (8 : Int) < (r.length : Int) := by omega
    go_enter Tryz.func33, Tryz.ntmps33
    go_wp2
    go_ret
    exact ⟨ret_bool (by rw [HR.out]; unfold rowB; rw [decide_eq_false h8]; rfl), Below.refl _ _⟩
end Go.Proofs.YtldlmkfigjicgaaGreatDoor
/- slices.Compare at int, zset.Order. -/
namespace Go.Proofs.YtldlmkfigjicgaaGreatDoor
set_option linter.unusedVariables false
set_option linter.unusedSimpArgs false
open Go.ChangeShapes Go.WideShapes Go.ChangeAt Go.RowKit

theorem isNaN_int (x : Int) (w : World) : Calls Tryz.prog 103 #[.int .i64 x] w fun e w' => e = .returned (.bool false) ∧ w = w' := by
  go_enter Tryz.func103, Tryz.ntmps103
  go_wp2
  go_ret
  simp
def cmpZ (x y : Int) : Int := if x < y then -1 else if y < x then 1 else 0
theorem compareZ_any (x y : Int) (w : World) :
    Calls Tryz.prog 82 #[.int .i64 x, .int .i64 y] w fun e w' => e = .returned (.int .i64 (cmpZ x y)) ∧ w = w' := by
  go_enter Tryz.func82, Tryz.ntmps82
  go_wp2_with (go_at_call 103; refine (isNaN_int _ _).mono ?_; rintro e w' ⟨rfl, rfl⟩)
  all_goals go_ret
  all_goals (refine ⟨?_, rfl⟩; first | (simp [cmpZ, *]; done) | (simp [cmpZ, *]; omega) | (simp [cmpZ]; omega))
theorem cmpL_cons (x y : Int) (l m : List Int) : cmpL (x :: l) (y :: m) = if cmpZ x y = 0 then cmpL l m else cmpZ x y := by
  unfold cmpZ
  rw [cmpL]
  by_cases h1 : x < y
  · rw [if_pos h1, if_pos h1, if_neg (by decide)]
  · rw [if_neg h1, if_neg h1]
    by_cases h2 : y < x
    · rw [if_pos h2, if_pos h2, if_neg (by decide)]
    · rw [if_neg h2, if_neg h2, if_pos rfl]

set_option maxHeartbeats 1000000 in
set_option maxRecDepth 100000 in
theorem compareL_any (l m : List Int) (A B : Option Addr) (c e : Nat) (w : World) (hr : Row w w.heap.size A (icells' l)) (hs : Row w w.heap.size B (icells' m)) (hl : l.length ≤ 9223372036854775807) (hm : m.length ≤ 9223372036854775807) :
    Calls Tryz.prog 50 #[.slice A l.length c, .slice B m.length e] w fun e w' => e = .returned (.int .i64 (cmpL l m)) ∧ w = w' := by
  have HR := hid hr
  have HS := hid hs
  clear hr hs
  obtain ⟨R, hR⟩ : ∃ R, R = cmpL l m := ⟨_, rfl⟩
  rw [← hR]
  have HRR := hid hR
  clear hR
  go_enter Tryz.func50, Tryz.ntmps50
  go_wp2
  go_loop [11] (fun i => ∃ k : Nat, k ≤ l.length ∧ k ≤ m.length ∧ i = .int .i64 k ∧ Hid (R = cmpL (l.drop k) (m.drop k))) (fun i => l.length - (intOf i).toNat)
  case atStart => exact ⟨0, by omega, by omega, rfl, HRR⟩
  case round =>
    clear HRR
    obtain ⟨k, hk, hk2, rfl, HK⟩ := hrel
    by_cases hlt : k < l.length
    · obtain ⟨b, off, rfl, hb, h0⟩ := HR.out.int' hlt
      have HD := hid (List.drop_eq_getElem_cons hlt)
      by_cases hlt2 : k < m.length
      · obtain ⟨b', off', rfl, hb', h0'⟩ := HS.out.int' hlt2
        have HD' := hid (List.drop_eq_getElem_cons hlt2)
        have HC : Hid (R = if cmpZ l[k] m[k] = 0 then cmpL (l.drop (k + 1)) (m.drop (k + 1)) else cmpZ l[k] m[k]) := hid (by rw [HK.out, HD.out, HD'.out, cmpL_cons])
        clear HK HD HD'
        generalize l[k] = x at *
        generalize m[k] = y at *
        have hc := compareZ_any x y w
        obtain ⟨cv, hcv⟩ : ∃ cv, cv = cmpZ x y := ⟨_, rfl⟩
        rw [← hcv] at hc HC
        have HCC := hid hc
        clear hc hcv
        by_cases hz : cv = 0
        · have t1 : (cv != 0) = false := by simp [hz]
          have HZ := hid hz
          clear hz
          go_wp2_with (go_at_call 82; refine HCC.out.mono ?_; rintro e w' ⟨rfl, rfl⟩)
          go_round
          case rel => exact ⟨k + 1, by omega, by omega, by go_num, hid (by rw [HC.out, if_pos HZ.out])⟩
          case measure => simp [intOf]; omega
        · have t1 : (cv != 0) = true := by simp [hz]
          have HZ := hid hz
          clear hz
          go_wp2_with (go_at_call 82; refine HCC.out.mono ?_; rintro e w' ⟨rfl, rfl⟩)
          go_ret
          exact ⟨ret_int (by rw [HC.out, if_neg HZ.out]), rfl⟩
      · have he : Hid (R = 1) := hid (by rw [HK.out, HD.out, show m.drop k = [] from List.drop_eq_nil_of_le (by omega)]; rfl)
        have hkm : (m.length : Int) ≤ (k : Int) := by omega
        clear HK HD
        go_wp2
        go_ret
        exact ⟨ret_int he.out.symm, rfl⟩
    · have hkl : k = l.length := by omega
      by_cases hlt2 : l.length < m.length
      · have he : Hid (R = -1) := hid (by rw [HK.out, show l.drop k = [] from List.drop_eq_nil_of_le (by omega), List.drop_eq_getElem_cons (show k < m.length by omega)]; rfl)
        clear HK hkl
        go_wp2
        go_ret
        exact ⟨ret_int he.out.symm, rfl⟩
      · have he : Hid (R = 0) := hid (by rw [HK.out, show l.drop k = [] from List.drop_eq_nil_of_le (by omega), show m.drop k = [] from List.drop_eq_nil_of_le (by omega)]; rfl)
        clear HK hkl
        go_wp2
        go_ret
        exact ⟨ret_int he.out.symm, rfl⟩

set_option maxRecDepth 100000 in
theorem orderL_any (l m : List Int) (A B : Option Addr) (c e : Nat) (w : World) (hr : Row w w.heap.size A (icells' l)) (hs : Row w w.heap.size B (icells' m)) (hl : l.length ≤ 9223372036854775807) (hm : m.length ≤ 9223372036854775807) :
    Calls Tryz.prog 16 #[.slice A l.length c, .slice B m.length e] w fun e w' => e = .returned (.int .i64 (cmpL l m)) ∧ w = w' := by
  have HC := hid (compareL_any l m A B c e w hr hs hl hm)
  clear hr hs
  go_enter Tryz.func16, Tryz.ntmps16
  go_wp2_with (go_at_call 50; refine HC.out.mono ?_; rintro e w' ⟨rfl, rfl⟩)
  go_ret
  exact ⟨rfl, rfl⟩
end Go.Proofs.YtldlmkfigjicgaaGreatDoor
/- Words for items of a call's own making. -/
namespace Go.Proofs.YtldlmkfigjicgaaGreatDoor
set_option linter.unusedVariables false
set_option linter.unusedSimpArgs false
open Go.ChangeShapes Go.WideShapes Go.ChangeAt Go.RowKit

theorem Row.grown_ne {w w' : World} {B : Nat} {A : Option Addr} {xs : List Value} {r : Option Nat} (h : Row w B A xs) (hB : B ≤ w.heap.size) (hg : w.grownBy w' r) (hr : ∀ b off q, A = some ⟨b, off, q⟩ → some b ≠ r) : Row w' B A xs := by
  rcases h with h | ⟨b, off, h1, h2, h3⟩
  · exact .inl h
  · refine .inr ⟨b, off, h1, h2, fun j u hu => ?_⟩
    rw [World.cell?_of_block (w := w) (hg.block b (by omega) (hr b off none h1))]
    exact h3 j u hu
/-- A row of ints in a block of its own: it lies there, and its room is known. -/
structure RowOwn (w : World) (A : Option Addr) (l : List Int) (k : Nat) : Prop where
  row : Row w w.heap.size A (icells' l)
  own : w.ownsRow 0 3 1 (.slice A l.length k) l.length (icells' l)
theorem RowOwn.of_own {w : World} {B n k : Nat} {A : Option Addr} {l : List Int} (h : w.ownsRow B 3 1 (.slice A n k) n (icells' l)) (hn : n = l.length) : RowOwn w A l k := by
  subst hn; exact ⟨Row.of_ownS h, own_baseS h (Nat.zero_le _)⟩
theorem RowOwn.step {w w' : World} {A : Option Addr} {l : List Int} {k : Nat} (h : RowOwn w A l k) (hb : Below w.heap.size w w') : RowOwn w' A l k := ⟨h.row.step hb, own_laterS h.own hb⟩
theorem RowOwn.grown_ne {w w' : World} {B : Nat} {A : Option Addr} {l : List Int} {k : Nat} {r : Option Nat} (h : RowOwn w A l k) (_ : B ≤ w.heap.size) (hg : w.grownBy w' r) (hr : ∀ b off q, A = some ⟨b, off, q⟩ → some b ≠ r) : RowOwn w' A l k := by
  refine ⟨(h.row.grown_ne (Nat.le_refl _) hg hr).more hg.size, ?_⟩
  obtain ⟨h1, h2⟩ := h.own
  refine ⟨h1, ?_⟩
  rcases h2 with h2 | ⟨b, cap, cur, e, hb, hgt, h3⟩
  · exact .inl h2
  · have hlt : b < w.heap.size := by
      rcases Nat.lt_or_ge b w.heap.size with h | h
      · exact h
      · rw [Array.getElem?_eq_none h] at hgt; cases hgt
    refine .inr ⟨b, cap, cur, e, hb, (hg.block b hlt ?_).trans hgt, h3⟩
    injection e with e
    exact hr b 0 none e
theorem RowOwn.more {w : World} {A : Option Addr} {l : List Int} {k B C : Nat} (h : RowOwn w A l k) (_ : B ≤ C) : RowOwn w A l k := h
/-- The rows of items that a call has made: in blocks of their own. -/
def RowsNew (w : World) (lo : Nat) (v : Value) (M : List IR) : Prop := ∀ x ∈ M, RowOwn w x.A x.row x.k ∧ NewAt lo x.A ∧ (∀ b off q, x.A = some ⟨b, off, q⟩ → some b ≠ v.ownBlock ∧ b < w.heap.size) ∧ x.row.length ≤ 1048576
theorem RowsNew.nil (w : World) (lo : Nat) (v : Value) : RowsNew w lo v [] := fun x hx => by simp at hx
theorem RowsNew.step {w w' : World} {lo : Nat} {v : Value} {M : List IR} (h : RowsNew w lo v M) (hb : Below w.heap.size w w') : RowsNew w' lo v M := fun x hx => by
  obtain ⟨h1, h2, h3, h4⟩ := h x hx
  exact ⟨h1.step hb, h2, fun b off q e => ⟨(h3 b off q e).1, Nat.lt_of_lt_of_le (h3 b off q e).2 hb.size⟩, h4⟩
theorem RowsNew.grown {w w' : World} {lo : Nat} {v v' : Value} {M : List IR} (h : RowsNew w lo v M) (hg : w.grownBy w' v.ownBlock) (hv : v'.ownBlock = v.ownBlock ∨ v'.ownBlock = some w.heap.size) : RowsNew w' lo v' M := fun x hx => by
  obtain ⟨h1, h2, h3, h4⟩ := h x hx
  refine ⟨h1.grown_ne (Nat.le_refl _) hg (fun b off q e => (h3 b off q e).1), h2, fun b off q e => ⟨?_, Nat.lt_of_lt_of_le (h3 b off q e).2 hg.size⟩, h4⟩
  rcases hv with hv | hv
  · rw [hv]; exact (h3 b off q e).1
  · rw [hv]; intro e2; injection e2 with e2; have := (h3 b off q e).2; omega
theorem RowsNew.snoc {w : World} {lo : Nat} {v : Value} {M : List IR} (h : RowsNew w lo v M) {x : IR} (h1 : RowOwn w x.A x.row x.k) (h2 : NewAt lo x.A) (h3 : ∀ b off q, x.A = some ⟨b, off, q⟩ → some b ≠ v.ownBlock ∧ b < w.heap.size) (h4 : x.row.length ≤ 1048576) : RowsNew w lo v (M ++ [x]) := fun y hy => by
  rcases List.mem_append.1 hy with e | e
  · exact h y e
  · rw [List.mem_singleton.1 e]; exact ⟨h1, h2, h3, h4⟩
theorem RowsNew.rows {w : World} {lo : Nat} {v : Value} {M : List IR} (h : RowsNew w lo v M) : RowsAt w w.heap.size M := fun x hx => ⟨(h x hx).1.row, Nat.le_trans (h x hx).2.2.2 (by decide)⟩
theorem Row.lt_of {w : World} {A : Option Addr} {xs : List Value} {b off q} (h : Row w w.heap.size A xs) (e : A = some ⟨b, off, q⟩) (hx : xs ≠ []) : b < w.heap.size := by
  rcases h with h | ⟨b', off', h1, h2, -⟩
  · exact absurd h hx
  · rw [e] at h1; injection h1 with h1; injection h1 with h1; omega

theorem elem_item : Elem Tryz.prog 22 67 2 32 := ⟨Tryz.underlying22, by
  obtain ⟨i, hi, hz, hs, hb⟩ := info_parts (P := Tryz.prog) (e := 67) (z := .agg #[.slice none 0 0, .int .i64 0]) (size := 2) (bytes := 32) (by kernel_rfl)
  exact ⟨i, _, hi, hz, hs, hb, rfl⟩, by decide⟩

/-- A list of items of a call's own making. -/
def ItsPost (S : List It) (w : World) (e : Ending) (w' : World) : Prop :=
  ∃ (A : Option Addr) (k : Nat) (M : List IR), e = .returned (.slice A M.length k) ∧ its M = S ∧ w'.ownsRow w.heap.size 67 2 (.slice A M.length k) M.length (rcells M) ∧ RowsNew w' w.heap.size (.slice A M.length k) M ∧ Below w.heap.size w w'
/-- A list of items of a call's own making, and an error. -/
def ItsErr (S : List It) (x : Int) (w : World) (e : Ending) (w' : World) : Prop :=
  ∃ (A : Option Addr) (k : Nat) (M : List IR), e = .returned (.tuple #[.slice A M.length k, .int .i64 x]) ∧ its M = S ∧ w'.ownsRow w.heap.size 67 2 (.slice A M.length k) M.length (rcells M) ∧ RowsNew w' w.heap.size (.slice A M.length k) M ∧ Below w.heap.size w w'
theorem itsErr_nil {w w' : World} {x : Int} (hb : Below w.heap.size w w') : ItsErr [] x w (.returned (.tuple #[.slice none 0 0, .int .i64 x])) w' :=
  ⟨none, 0, [], rfl, rfl, World.ownsRow_nil _ _ _ _, RowsNew.nil _ _ _, hb⟩
theorem itsErr_nil' {S : List It} {w w' : World} {x y : Int} (hS : S = []) (hx : y = x) (hb : Below w.heap.size w w') : ItsErr S y w (.returned (.tuple #[.slice none 0 0, .int .i64 x])) w' := by
  subst hS hx; exact itsErr_nil hb
theorem its_len (M : List IR) : (its M).length = M.length := List.length_map ..
theorem rcells_snoc (M : List IR) (x : IR) : rcells (M ++ [x]) = rcells M ++ x.cells := by rw [rcells, List.flatMap_append]; simp
end Go.Proofs.YtldlmkfigjicgaaGreatDoor
/- zset.Check. -/
namespace Go.Proofs.YtldlmkfigjicgaaGreatDoor
set_option linter.unusedVariables false
set_option linter.unusedSimpArgs false
open Go.ChangeShapes Go.WideShapes Go.ChangeAt Go.RowKit

set_option maxHeartbeats 2000000 in
set_option maxRecDepth 100000 in
theorem zcheck_any (M : List IR) (A : Option Addr) (c : Nat) (w : World) (hr : RowI w w.heap.size A M) (hl : M.length ≤ 9223372036854775807) :
    Calls Tryz.prog 18 #[.slice A M.length c] w fun e w' => e = .returned (.int .i64 (setI (its M))) ∧ Below w.heap.size w w' := by
  have HR := hid hr
  clear hr
  have HE := hid (show setI (its M) = if 400 < (its M).length then 2 else if (List.range (its M).length).any (zbadAt (its M)) = true then 5 else 0 from rfl)
  obtain ⟨E, hE⟩ : ∃ E, E = setI (its M) := ⟨_, rfl⟩
  rw [← hE] at HE ⊢
  rw [its_len] at HE
  clear hE
  by_cases h4 : 400 < M.length
  · have h4' : (400 : Int) < (M.length : Int) := by omega
    have HD : Hid (E = 2) := hid (by rw [HE.out, if_pos h4])
    go_enter Tryz.func18, Tryz.ntmps18
    go_wp2
    go_ret
    exact ⟨ret_int (by rw [HD.out]), Below.refl _ _⟩
  · have h4' : (M.length : Int) ≤ 400 := by omega
    have h4n : M.length ≤ 400 := by omega
    replace HE : Hid (E = if (List.range M.length).any (zbadAt (its M)) = true then 5 else 0) := hid (by rw [HE.out, if_neg h4])
    clear h4
    go_enter Tryz.func18, Tryz.ntmps18
    go_wp2_with fail
    go_loopw [10] (fun s10 wr => ∃ i : Nat, i ≤ M.length ∧ s10 = .int .i64 i ∧ Hid (∀ j, j < i → zbadAt (its M) j = false) ∧ Hid (Below w.heap.size w wr)) (fun s10 _ => M.length - (intOf s10).toNat)
    case atStart => exact ⟨0, by omega, rfl, hid (fun j h => by omega), hid (Below.refl _ _)⟩
    case round =>
      obtain ⟨i, hi, rfl, HNO, HB⟩ := hrel
      by_cases hlt : i < M.length
      · have HRR := hid (HR.out.step HB.out)
        obtain ⟨b, off, rfl, hb, h0, h1⟩ := HRR.out.1.it hlt
        have hmem := List.getElem_mem hlt
        have hrw := HRR.out.2 _ hmem
        have HBA : Hid (zbadAt (its M) i = ((badB M[i].it || decide (M[i].n = 0)) || (if h : 0 < i then decide (0 ≤ cmpL M[i - 1].row M[i].row) else false))) := hid (by
          cases i with
          | zero => rw [badAt_zero (by rw [its_len]; exact hlt)]; simp [its]
          | succ k => rw [badAt_succ (by rw [its_len]; exact hlt)]; simp [its])
        have hprev : ∀ h : 0 < i, ∃ (y : List Int) (yA : Option Addr) (yk : Nat), wr.cell? ⟨b, off + (i - 1) * 2, none⟩ = some (.slice yA y.length yk) ∧ Row wr wr.heap.size yA (icells' y) ∧ y.length ≤ 9223372036854775807 ∧ y = M[i - 1].row := fun h => by
          obtain ⟨b2, off2, hA2, hb2, g0, g1⟩ := HRR.out.1.it (show i - 1 < M.length by omega)
          injection hA2 with hA2
          injection hA2 with q1 q2
          subst q1 q2
          exact ⟨_, _, _, g0, (HRR.out.2 _ (List.getElem_mem _)).1, (HRR.out.2 _ (List.getElem_mem _)).2, rfl⟩
        obtain ⟨bad, hbad⟩ : ∃ bad, bad = zbadAt (its M) i := ⟨_, rfl⟩
        have HBD := hid hbad
        rw [← hbad] at HBA
        clear hbad hmem
        generalize M[i] = x at *
        obtain ⟨xr, xA, xk, xn⟩ := x
        simp only at h0 h1 hrw
        simp only [IR.it] at HBA
        obtain ⟨hrw1, hrw2⟩ := hrw
        obtain ⟨W, hW⟩ : ∃ W : World, W = wr.alloc (.cells #[.slice xA xr.length xk, .int .i64 xn] 67) := ⟨_, rfl⟩
        have hWB : Below wr.heap.size wr W := by rw [hW]; exact alloc_below (Below.refl _ _) _
        have HWX := hid (show Blk W wr.heap.size #[.slice xA xr.length xk, .int .i64 xn] 67 by rw [hW]; exact Blk.new _ _ _)
        have HROW := hid (fun w1 (hb : Below W.heap.size W w1) => row_any xr xA xk w1 (hrw1.step (Below.step' hWB hb)) hrw2)
        have HFAR := hid (fun w1 => far_any xn w1)
        have HXR := hid hrw1
        have hbr := hb
        have HBW := hid (Below.step' HB.out hWB)
        have HB2 := hid hWB
        have hW2 := hWB.size
        clear hWB
        obtain ⟨rb, hrb⟩ : ∃ q, q = rowB xr := ⟨_, rfl⟩
        obtain ⟨fb, hfb⟩ : ∃ q, q = farB xn := ⟨_, rfl⟩
        rw [← hrb] at HROW
        rw [← hfb] at HFAR
        replace HBA : Hid (bad = (((!rb || fb) || decide (xn = 0)) || (if h : 0 < i then decide (0 ≤ cmpL M[i - 1].row xr) else false))) := hid (by rw [HBA.out, badB, ← hrb, ← hfb])
        clear hrb hfb
        have hb0 : b < W.heap.size := by omega
        have HPRE := hid hprev
        clear hprev
        have HW := hid hW
        go_wp2_with fail
        -- STOP-a
        rw [← hW]
        clear hW h0 h1 hb hrw1
        go_cut [44] from 15 to 44 (fun s wx => s = .bool bad ∧ Hid (Below W.heap.size W wx))
        case first =>
          obtain ⟨cx, fx, sx, nx⟩ := HWX.out.all
          cases rb
          · go_wp2
            refine region_ext (by kernel_rfl) (by kernel_rfl) (fun hext => ?_)
            repeat (any_goals ((with_reducible refine wpQuiet_step (fun K hK => ?_)); go_simp; first | (with_reducible refine hK _ ?_; clear hK K) | ((with_reducible apply Exists.intro); (with_reducible refine ⟨fun _ => ?_, hK _ ?_⟩); ((first | (go_at_call 33; exact ext_call _ (Nat.le_refl _) (HROW.out _ (Ext.below _))) | (go_at_call 34; exact ext_call_same _ (HFAR.out _)) | (go_at_call 16; exact ext_call_same _ (HORD.out _ (Ext.below _))))); clear hK K) | ((with_reducible refine (if_neg ?_).mpr (hK _ ?_)); (decide); clear hK K) | (split <;> (with_reducible refine hK _ ?_; clear hK K))))
            all_goals ((with_reducible refine wpQuiet_nil ?_); clear hext; intro w1 hx1; have hb1 := ext_below hx1; clear hx1)
            go_wp2
            all_goals
              go_meet
              case rel => exact ⟨by rw [HBA.out]; rfl, hid hb1⟩
          · by_cases hn : xn = 0
            · have t1 : (xn == 0) = true := by simp [hn]
              have HN := hid hn
              clear hn
              go_wp2
              refine region_ext (by kernel_rfl) (by kernel_rfl) (fun hext => ?_)
              repeat (any_goals ((with_reducible refine wpQuiet_step (fun K hK => ?_)); go_simp; first | (with_reducible refine hK _ ?_; clear hK K) | ((with_reducible apply Exists.intro); (with_reducible refine ⟨fun _ => ?_, hK _ ?_⟩); ((first | (go_at_call 33; exact ext_call _ (Nat.le_refl _) (HROW.out _ (Ext.below _))) | (go_at_call 34; exact ext_call_same _ (HFAR.out _)) | (go_at_call 16; exact ext_call_same _ (HORD.out _ (Ext.below _))))); clear hK K) | ((with_reducible refine (if_neg ?_).mpr (hK _ ?_)); (decide); clear hK K) | (split <;> (with_reducible refine hK _ ?_; clear hK K))))
              all_goals ((with_reducible refine wpQuiet_nil ?_); clear hext; intro w1 hx1; have hb1 := ext_below hx1; clear hx1)
              go_wp2
              all_goals
                go_meet
                case rel => exact ⟨by rw [HBA.out, decide_eq_true HN.out]; simp, hid hb1⟩
            · have t1 : (xn == 0) = false := by simp [hn]
              have HN := hid hn
              clear hn
              cases fb
              · by_cases hi0 : 0 < i
                · obtain ⟨y, yA, yk, g0, g1, g2, g3⟩ := HPRE.out hi0
                  have g0' : W.cell? ⟨b, off + (i - 1) * 2, none⟩ = some (.slice yA y.length yk) := by rw [(bcell HB2.out).1 _ _ (by omega)]; exact g0
                  have HORD := hid (fun w1 (hb : Below W.heap.size W w1) => orderL_any y xr yA xA yk xk w1 (g1.step (Below.step' HB2.out hb)) (HXR.out.step (Below.step' HB2.out hb)) g2 hrw2)
                  obtain ⟨cv, hcv⟩ : ∃ q, q = cmpL y xr := ⟨_, rfl⟩
                  rw [← hcv] at HORD
                  have HBB : Hid (bad = decide (0 ≤ cv)) := hid (by rw [HBA.out, dif_pos hi0, ← g3, ← hcv, decide_eq_false HN.out]; simp)
                  have hi1 : (0 : Int) < (i : Int) := by omega
                  have hw1 : IntKind.i64.wrap ((i : Int) - 1) = (i : Int) - 1 := IntWalk.i64_in _ (by omega)
                  have hi2 : ((i : Int) - 1).toNat = i - 1 := by omega
                  have hi3 : (0 : Int) ≤ (i : Int) - 1 := by omega
                  have hi4 : (1 : Int) ≤ (i : Int) := by omega
                  have hi5 : (i : Int) - 1 < (M.length : Int) := by omega
                  clear hcv g0 g1 g3
                  by_cases hc : 0 ≤ cv
                  · have HC := hid hc
                    have hcd : decide (0 ≤ cv) = true := decide_eq_true hc
                    go_wp2
                    refine region_ext (by kernel_rfl) (by kernel_rfl) (fun hext => ?_)
                    repeat (any_goals ((with_reducible refine wpQuiet_step (fun K hK => ?_)); go_simp; first | (with_reducible refine hK _ ?_; clear hK K) | ((with_reducible apply Exists.intro); (with_reducible refine ⟨fun _ => ?_, hK _ ?_⟩); ((first | (go_at_call 33; exact ext_call _ (Nat.le_refl _) (HROW.out _ (Ext.below _))) | (go_at_call 34; exact ext_call_same _ (HFAR.out _)) | (go_at_call 16; exact ext_call_same _ (HORD.out _ (Ext.below _))))); clear hK K) | ((with_reducible refine (if_neg ?_).mpr (hK _ ?_)); (decide); clear hK K) | (split <;> (with_reducible refine hK _ ?_; clear hK K))))
                    all_goals ((with_reducible refine wpQuiet_nil ?_); clear hext; intro w1 hx1; have hb1 := ext_below hx1; clear hx1)
                    go_wp2
                    all_goals
                      go_meet
                      case rel => exact ⟨by rw [HBB.out, decide_eq_true HC.out], hid hb1⟩
                  · have HC := hid hc
                    have hcd : decide (0 ≤ cv) = false := decide_eq_false hc
                    go_wp2
                    refine region_ext (by kernel_rfl) (by kernel_rfl) (fun hext => ?_)
                    repeat (any_goals ((with_reducible refine wpQuiet_step (fun K hK => ?_)); go_simp; first | (with_reducible refine hK _ ?_; clear hK K) | ((with_reducible apply Exists.intro); (with_reducible refine ⟨fun _ => ?_, hK _ ?_⟩); ((first | (go_at_call 33; exact ext_call _ (Nat.le_refl _) (HROW.out _ (Ext.below _))) | (go_at_call 34; exact ext_call_same _ (HFAR.out _)) | (go_at_call 16; exact ext_call_same _ (HORD.out _ (Ext.below _))))); clear hK K) | ((with_reducible refine (if_neg ?_).mpr (hK _ ?_)); (decide); clear hK K) | (split <;> (with_reducible refine hK _ ?_; clear hK K))))
                    all_goals ((with_reducible refine wpQuiet_nil ?_); clear hext; intro w1 hx1; have hb1 := ext_below hx1; clear hx1)
                    go_wp2
                    all_goals
                      go_meet
                      case rel => exact ⟨by rw [HBB.out, decide_eq_false (by have := HC.out; omega)], hid hb1⟩
                · have HBB : Hid (bad = false) := hid (by rw [HBA.out, dif_neg hi0, decide_eq_false HN.out]; simp)
                  have hi1 : decide ((0 : Int) < (i : Int)) = false := decide_eq_false (by omega)
                  have hi2 : ¬ (0 : Int) < (i : Int) := by omega
                  go_wp2
                  refine region_ext (by kernel_rfl) (by kernel_rfl) (fun hext => ?_)
                  repeat (any_goals ((with_reducible refine wpQuiet_step (fun K hK => ?_)); go_simp; first | (with_reducible refine hK _ ?_; clear hK K) | ((with_reducible apply Exists.intro); (with_reducible refine ⟨fun _ => ?_, hK _ ?_⟩); ((first | (go_at_call 33; exact ext_call _ (Nat.le_refl _) (HROW.out _ (Ext.below _))) | (go_at_call 34; exact ext_call_same _ (HFAR.out _)) | (go_at_call 16; exact ext_call_same _ (HORD.out _ (Ext.below _))))); clear hK K) | ((with_reducible refine (if_neg ?_).mpr (hK _ ?_)); (decide); clear hK K) | (split <;> (with_reducible refine hK _ ?_; clear hK K))))
                  all_goals ((with_reducible refine wpQuiet_nil ?_); clear hext; intro w1 hx1; have hb1 := ext_below hx1; clear hx1)
                  go_wp2
                  all_goals
                    go_meet
                    case rel => exact ⟨by rw [HBB.out], hid hb1⟩
              · go_wp2
                refine region_ext (by kernel_rfl) (by kernel_rfl) (fun hext => ?_)
                repeat (any_goals ((with_reducible refine wpQuiet_step (fun K hK => ?_)); go_simp; first | (with_reducible refine hK _ ?_; clear hK K) | ((with_reducible apply Exists.intro); (with_reducible refine ⟨fun _ => ?_, hK _ ?_⟩); ((first | (go_at_call 33; exact ext_call _ (Nat.le_refl _) (HROW.out _ (Ext.below _))) | (go_at_call 34; exact ext_call_same _ (HFAR.out _)) | (go_at_call 16; exact ext_call_same _ (HORD.out _ (Ext.below _))))); clear hK K) | ((with_reducible refine (if_neg ?_).mpr (hK _ ?_)); (decide); clear hK K) | (split <;> (with_reducible refine hK _ ?_; clear hK K))))
                all_goals ((with_reducible refine wpQuiet_nil ?_); clear hext; intro w1 hx1; have hb1 := ext_below hx1; clear hx1)
                go_wp2
                all_goals
                  go_meet
                  case rel => exact ⟨by rw [HBA.out]; simp, hid hb1⟩
        case rest =>
          obtain ⟨rfl, HB4⟩ := hcut
          have HB5 := hid (Below.step' HBW.out HB4.out)
          cases bad
          · go_wp2_with fail
            go_roundw
            case rel =>
              refine ⟨i + 1, by omega, by go_num, hid (fun j hj => ?_), HB5⟩
              by_cases e : j = i
              · rw [e]; exact HBD.out.symm
              · exact HNO.out j (by omega)
            case measure => simp [intOf]; omega
          · have HD : Hid (E = 5) := hid (by rw [HE.out, if_pos (List.any_eq_true.2 ⟨i, List.mem_range.2 hlt, HBD.out.symm⟩)])
            go_wp2
            go_ret
            exact ⟨ret_int (by rw [HD.out]), HB5.out⟩
      · have HD : Hid (E = 0) := hid (by
          rw [HE.out, if_neg]
          intro h
          obtain ⟨j, hj, e⟩ := List.any_eq_true.1 h
          rw [HNO.out j (by have := List.mem_range.1 hj; omega)] at e
          cases e)
        go_wp2
        go_ret
        exact ⟨ret_int (by rw [HD.out]), HB.out⟩
end Go.Proofs.YtldlmkfigjicgaaGreatDoor
