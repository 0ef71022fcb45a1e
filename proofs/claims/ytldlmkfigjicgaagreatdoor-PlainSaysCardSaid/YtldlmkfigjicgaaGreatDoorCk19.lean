/- RkP, RkA, LinP, PlP, RwP, ZgP, PlQ -/
import Derived.Test.YtldlmkfigjicgaaGreatDoorCk03
import Derived.Test.YtldlmkfigjicgaaGreatDoorCk11
/- Rows in an order: the plain law (rank.Rows, RankSorts). -/
namespace Go.Proofs.YtldlmkfigjicgaaGreatDoor
set_option linter.unusedVariables false
set_option linter.unusedSimpArgs false

/-- A row's column by a number of an order: turned, if the number is below nothing. -/
def colv (n : Int) (r : List Int) : Int := if n < 0 then -(r.getD (-n - 1).toNat 0) else r.getD (n - 1).toNat 0
def byKey (bs : List Int) (r : List Int) : List Int := bs.map (fun n => colv n r) ++ r
def cmpBy (bs : List Int) (a b : List Int) : Int := cmpL (byKey bs a) (byKey bs b)
theorem cmpBy_nil (a b : List Int) : cmpBy [] a b = cmpL a b := rfl
theorem cmpBy_cons (n : Int) (bs a b : List Int) : cmpBy (n :: bs) a b = if colv n a < colv n b then -1 else if colv n b < colv n a then 1 else cmpBy bs a b := by
  show cmpL (colv n a :: byKey bs a) (colv n b :: byKey bs b) = _
  rw [cmpL]; rfl
theorem cmpBy_range (bs a b : List Int) : cmpBy bs a b = -1 ∨ cmpBy bs a b = 0 ∨ cmpBy bs a b = 1 := cmpL_range _ _
theorem cmpBy_self (bs a : List Int) : cmpBy bs a a = 0 := cmpL_self _
theorem cmpBy_eq (bs a b : List Int) (h : cmpBy bs a b = 0) : a = b := by
  have := cmpL_eq _ _ h
  unfold byKey at this
  exact (List.append_inj this (by simp)).2
theorem cmpBy_neg (bs a b : List Int) : cmpBy bs b a = - cmpBy bs a b := cmpL_neg _ _
def byLt (bs : List Int) (x y : It) : Bool := decide (cmpBy bs x.1 y.1 < 0)
def byLe (bs : List Int) (x y : It) : Bool := decide (cmpBy bs x.1 y.1 ≤ 0)

def widI (l : List It) : Int := match l with
  | [] => 8
  | x :: _ => if l.any (fun y => decide (y.1.length ≠ x.1.length)) = true then -1 else (x.1.length : Int)
def manyB (x : It) : Bool := decide (x.2 < 0) || decide (400 < x.2)
def wrongB (n k : Int) : Bool := decide (k = 0) || decide (k < -n) || decide (n < k)
def rankE (l : List It) (bs : List Int) (most : Int) : Int :=
  if setI l ≠ 0 then setI l else if (decide (widI l < 0) || l.any manyB) = true then 5 else if (decide (8 < bs.length) || bs.any (wrongB (widI l)) || decide (most < 0) || decide (400 < most)) = true then 1 else 0
def expd (L : List It) : List (List Int) := L.flatMap (fun x => List.replicate x.2.toNat x.1)
def rankX (l : List It) (bs : List Int) (most : Int) : List (List Int) := if rankE l bs most = 0 then (expd (l.mergeSort (byLe bs))).take most.toNat else []
theorem rankE_zero {l : List It} {bs : List Int} {most : Int} (h : rankE l bs most = 0) : setI l = 0 ∧ 0 ≤ widI l ∧ (∀ x ∈ l, 0 ≤ x.2 ∧ x.2 ≤ 400) ∧ bs.length ≤ 8 ∧ (∀ k ∈ bs, k ≠ 0 ∧ -widI l ≤ k ∧ k ≤ widI l) ∧ 0 ≤ most ∧ most ≤ 400 := by
  unfold rankE at h
  by_cases h1 : setI l = 0
  · rw [if_neg (by simp [h1])] at h
    by_cases h2 : (decide (widI l < 0) || l.any manyB) = true
    · rw [if_pos h2] at h; omega
    · rw [if_neg h2] at h
      by_cases h3 : (decide (8 < bs.length) || bs.any (wrongB (widI l)) || decide (most < 0) || decide (400 < most)) = true
      · rw [if_pos h3] at h; omega
      · simp only [Bool.or_eq_true, decide_eq_true_eq, not_or, List.any_eq_true, not_exists, not_and] at h2 h3
        refine ⟨h1, by omega, fun x hx => ?_, by omega, fun k hk => ?_, by omega, by omega⟩
        · have := h2.2 x hx
          unfold manyB at this
          simp only [Bool.or_eq_true, decide_eq_true_eq, not_or] at this
          omega
        · have := h3.1.1.2 k hk
          unfold wrongB at this
          simp only [Bool.or_eq_true, decide_eq_true_eq, not_or] at this
          omega
  · rw [if_pos h1] at h; exact absurd h h1
theorem wid_rows {l : List It} (h : 0 ≤ widI l) : ∀ x ∈ l, (x.1.length : Int) = widI l := by
  cases l with
  | nil => intro x hx; simp at hx
  | cons y l =>
    unfold widI at h ⊢
    simp only at h ⊢
    by_cases q : (y :: l).any (fun z => decide (z.1.length ≠ y.1.length)) = true
    · rw [if_pos q] at h; omega
    · intro x hx
      rw [if_neg q]
      rw [List.any_eq_true, not_exists] at q
      have := q x
      simp only [not_and, decide_eq_true_eq, ne_eq, Decidable.not_not] at this
      rw [this hx]
theorem rankX_len (l : List It) (bs : List Int) (most : Int) : (rankX l bs most).length ≤ most.toNat := by
  unfold rankX
  split
  · exact List.length_take_le _ _
  · exact Nat.zero_le _

/-- The items in their order, however they were sorted. -/
theorem sorted_one {l l' : List It} {bs : List Int} (hs : Strict l) (hp : l'.Perm l) (hso : l'.Pairwise (fun x y => byLt bs y x = false)) : l' = l.mergeSort (byLe bs) := by
  have hm : (l.mergeSort (byLe bs)).Pairwise (fun x y => byLe bs x y = true) := List.pairwise_mergeSort (fun a b c h1 h2 => by
    unfold byLe cmpBy at *
    simp only [decide_eq_true_eq] at *
    exact (cmpL_trans _ _ _ h1 h2).1) (fun a b => by
    unfold byLe
    have := cmpBy_neg bs a.1 b.1
    simp only [Bool.or_eq_true, decide_eq_true_eq]
    omega) l
  have hd : ∀ x ∈ l, ∀ y ∈ l, x.1 = y.1 → x = y := by
    intro x hx y hy e
    by_cases q : x = y
    · exact q
    · exfalso
      have hpw := strict_pair hs
      have key : ∀ {L : List It}, L.Pairwise (fun x y => cmpL x.1 y.1 < 0) → x ∈ L → y ∈ L → False := by
        intro L hL
        induction L with
        | nil => intro h; simp at h
        | cons z L ih =>
          obtain ⟨p1, p2⟩ := List.pairwise_cons.1 hL
          intro h1 h2
          rcases List.mem_cons.1 h1 with e1 | e1 <;> rcases List.mem_cons.1 h2 with e2 | e2
          · exact q (e1.trans e2.symm)
          · have := p1 y e2; rw [← e1, e, cmpL_self] at this; omega
          · have := p1 x e1; rw [← e2, ← e, cmpL_self] at this; omega
          · exact ih p2 e1 e2
      exact key hpw hx hy
  refine List.Perm.eq_of_pairwise (le := fun x y => byLe bs x y = true) ?_ (hso.imp fun {x y} h => ?_) hm (hp.trans (List.mergeSort_perm _ _).symm)
  · intro x y hx hy h1 h2
    refine hd x (hp.subset hx) y ((List.mergeSort_perm _ _).subset hy) (cmpBy_eq bs _ _ ?_)
    unfold byLe at h1 h2
    have := cmpBy_neg bs x.1 y.1
    simp only [decide_eq_true_eq] at h1 h2
    omega
  · unfold byLt at h
    unfold byLe
    have := cmpBy_neg bs x.1 y.1
    simp only [decide_eq_false_iff_not, decide_eq_true_eq] at h ⊢
    omega

def sumN (l : List It) : Int := (l.map (·.2)).sum
theorem expd_len : ∀ {l : List It}, (∀ x ∈ l, 0 ≤ x.2) → ((expd l).length : Int) = sumN l
  | [], _ => rfl
  | x :: l, h => by
    have ih := expd_len (l := l) fun y hy => h y (by simp [hy])
    have h1 := h x (by simp)
    unfold expd sumN at *
    rw [List.flatMap_cons, List.length_append, List.length_replicate, List.map_cons, List.sum_cons]
    omega
theorem sumN_perm {l m : List It} (h : l.Perm m) : sumN l = sumN m := by
  induction h with
  | nil => rfl
  | cons x _ ih => unfold sumN at *; rw [List.map_cons, List.map_cons, List.sum_cons, List.sum_cons, ih]
  | swap x y l => unfold sumN; simp only [List.map_cons, List.sum_cons]; omega
  | trans _ _ h1 h2 => exact h1.trans h2
theorem expd_pair {bs : List Int} : ∀ {L : List It}, L.Pairwise (fun x y => byLe bs x y = true) → (expd L).Pairwise (fun a b => cmpBy bs a b ≤ 0)
  | [], _ => List.Pairwise.nil
  | x :: L, h => by
    obtain ⟨h1, h2⟩ := List.pairwise_cons.1 h
    have ih := expd_pair h2
    unfold expd at *
    rw [List.flatMap_cons]
    refine List.pairwise_append.2 ⟨?_, ih, fun a ha b hb => ?_⟩
    · refine List.pairwise_replicate.2 (.inr ?_)
      rw [cmpBy_self]; omega
    · rw [(List.mem_replicate.1 ha).2]
      obtain ⟨y, hy, hb⟩ := List.mem_flatMap.1 hb
      rw [(List.mem_replicate.1 hb).2]
      exact of_decide_eq_true (h1 y hy)
/-- What the law asks of both answers. -/
theorem rank_law {l : List It} {bs : List Int} {most : Int} (h1 : rankE l bs 400 = 0) (h2 : rankE l bs most = 0) :
    ((rankX l bs 400).length : Int) = min (sumN l) 400 ∧ ((rankX l bs most).length : Int) = min (sumN l) most ∧ (rankX l bs 400).take (rankX l bs most).length = rankX l bs most ∧ (rankX l bs 400).Pairwise (fun a b => cmpBy bs a b ≤ 0) ∧ (∀ a ∈ rankX l bs 400, (a.length : Int) = widI l) ∧ 0 ≤ sumN l ∧ sumN l ≤ 400 * l.length := by
  obtain ⟨s1, s2, s3, -, -, -, -⟩ := rankE_zero h1
  obtain ⟨-, -, -, -, -, m1, m2⟩ := rankE_zero h2
  have hT : ((expd (l.mergeSort (byLe bs))).length : Int) = sumN l := by
    rw [expd_len fun x hx => (s3 x ((List.mergeSort_perm _ _).subset hx)).1]
    exact sumN_perm (List.mergeSort_perm _ _)
  have hP : (expd (l.mergeSort (byLe bs))).Pairwise (fun a b => cmpBy bs a b ≤ 0) := expd_pair (List.pairwise_mergeSort (fun a b c h1 h2 => by
    unfold byLe cmpBy at *
    simp only [decide_eq_true_eq] at *
    exact (cmpL_trans _ _ _ h1 h2).1) (fun a b => by
    unfold byLe
    have := cmpBy_neg bs a.1 b.1
    simp only [Bool.or_eq_true, decide_eq_true_eq]
    omega) l)
  have hM : ∀ a ∈ expd (l.mergeSort (byLe bs)), (a.length : Int) = widI l := by
    intro a ha
    obtain ⟨y, hy, hb⟩ := List.mem_flatMap.1 ha
    rw [(List.mem_replicate.1 hb).2]
    exact wid_rows s2 y ((List.mergeSort_perm _ _).subset hy)
  have hN : 0 ≤ sumN l ∧ sumN l ≤ 400 * l.length := by
    clear hT hP hM h1 h2 s1 s2
    induction l with
    | nil => simp [sumN]
    | cons x l ih =>
      have := ih fun y hy => s3 y (by simp [hy])
      have h := s3 x (by simp)
      unfold sumN at *
      rw [List.map_cons, List.sum_cons, List.length_cons]
      omega
  unfold rankX
  rw [if_pos h1, if_pos h2]
  generalize expd (l.mergeSort (byLe bs)) = T at *
  refine ⟨?_, ?_, ?_, ?_, ?_, hN⟩
  · rw [List.length_take]; omega
  · rw [List.length_take]; omega
  · rw [List.take_take, List.length_take]
    have : min (min most.toNat T.length) (Int.toNat 400) = min most.toNat T.length := by omega
    rw [this]
    by_cases q : most.toNat ≤ T.length
    · rw [Nat.min_eq_left q]
    · rw [Nat.min_eq_right (by omega), List.take_length, List.take_of_length_le (by omega)]
  · exact List.Pairwise.sublist (List.take_sublist _ _) hP
  · exact fun a ha => hM a (List.mem_of_mem_take ha)
theorem rank_const : rankE [([1, 5], 2), ([2, 3], 1)] [2] 2 = 0 ∧ rankX [([1, 5], 2), ([2, 3], 1)] [2] 2 = [[2, 3], [1, 5]] := by
  have e : rankE [([1, 5], 2), ([2, 3], 1)] [2] 2 = 0 := by decide
  refine ⟨e, ?_⟩
  unfold rankX
  rw [if_pos e]
  have e2 : ([([1, 5], 2), ([2, 3], 1)] : List It).mergeSort (byLe [2]) = [([2, 3], 1), ([1, 5], 2)] := by
    simp [List.mergeSort, byLe, cmpBy, byKey, colv, cmpL]
  rw [e2]
  rfl
end Go.Proofs.YtldlmkfigjicgaaGreatDoor
/- rank's closures, rank.width, the order of rows. -/
namespace Go.Proofs.YtldlmkfigjicgaaGreatDoor
set_option linter.unusedVariables false
set_option linter.unusedSimpArgs false
open Go.ChangeShapes Go.WideShapes Go.ChangeAt Go.RowKit Go.Shelf Go.Lib Go.Sort

/-- A variable that a closure has caught. -/
def Caught (w : World) (a : Addr) (v : Value) : Prop := w.cell? a = some v ∧ a.block < w.heap.size
theorem Caught.step {w w' : World} {b off : Nat} {v : Value} (h : Caught w ⟨b, off, none⟩ v) (hb : Below w.heap.size w w') : Caught w' ⟨b, off, none⟩ v := ⟨((bcell hb).1 b off h.2).trans h.1, Nat.lt_of_lt_of_le h.2 hb.size⟩

end Go.Proofs.YtldlmkfigjicgaaGreatDoor
/- Sets with weights: what is linear in them. No program in sight. -/
namespace Go.Proofs.YtldlmkfigjicgaaGreatDoor
set_option linter.unusedVariables false
set_option linter.unusedSimpArgs false

abbrev M64 : Int := 18446744073709551616
theorem wrp_dvd {a b : Int} : wrp a = wrp b ↔ M64 ∣ a - b := by
  simp only [wrp, IntKind.wrap_i64, M64]
  omega
/-- A number of each row, times its weight, in all. -/
def totF (f : List Int → Int) : List It → Int
  | [] => 0
  | x :: l => f x.1 * x.2 + totF f l
theorem totF_app (f : List Int → Int) : ∀ a b, totF f (a ++ b) = totF f a + totF f b
  | [], b => by simp [totF]
  | x :: a, b => by rw [List.cons_append, totF, totF, totF_app f a b]; omega
theorem totF_neg (f : List Int → Int) : ∀ a : List It, totF f (a.map (fun x => (x.1, -x.2))) = - totF f a
  | [] => rfl
  | x :: a => by
    rw [List.map_cons, totF, totF, totF_neg f a]
    simp only [Int.mul_neg]
    omega
theorem tot_neg' (r : List Int) : ∀ a : List It, tot r (a.map (fun x => (x.1, -x.2))) = - tot r a
  | [] => rfl
  | x :: a => by
    rw [List.map_cons, tot, tot, tot_neg' r a]
    split <;> omega
theorem totF_one (r : List Int) : ∀ a : List It, totF (fun q => if q = r then 1 else 0) a = tot r a
  | [] => rfl
  | x :: a => by
    rw [totF, tot, totF_one r a]
    split <;> simp
theorem totF_split (f : List Int → Int) (r : List Int) : ∀ l : List It, totF f l = f r * tot r l + totF f (l.filter (fun y => decide (y.1 ≠ r)))
  | [] => by simp [totF, tot]
  | x :: l => by
    rw [totF, tot, totF_split f r l]
    by_cases h : x.1 = r
    · rw [if_pos h, List.filter_cons_of_neg (by simp [h]), h, Int.mul_add]; omega
    · rw [if_neg h, List.filter_cons_of_pos (by simp [h]), totF, Int.mul_add]; omega
theorem totF_zero (f : List Int → Int) : ∀ n (l : List It), l.length ≤ n → (∀ r, M64 ∣ tot r l) → M64 ∣ totF f l
  | _, [], _, _ => ⟨0, rfl⟩
  | 0, x :: l, h, _ => by simp at h
  | n + 1, x :: l, h, ht => by
    rw [totF_split f x.1]
    refine Int.dvd_add (Int.dvd_mul_of_dvd_right (ht x.1)) (totF_zero f n _ ?_ fun r => ?_)
    · rw [List.filter_cons_of_neg (by simp)]
      have := List.length_filter_le (fun y : It => decide (y.1 ≠ x.1)) l
      simp only [List.length_cons] at h
      omega
    · by_cases e : r = x.1
      · have : tot r ((x :: l).filter (fun y => decide (y.1 ≠ x.1))) = 0 := tot_none fun y hy e2 => by
          have := (List.mem_filter.1 hy).2
          simp only [decide_eq_true_eq] at this
          exact this (e2.trans e)
        rw [this]; exact ⟨0, rfl⟩
      · rw [tot_filter e]; exact ht r
/-- What has the same weights has the same of all that is linear. -/
theorem totF_wt {a b : List It} (h : ∀ r, wt a r = wt b r) (f : List Int → Int) : M64 ∣ totF f a - totF f b := by
  have h2 := totF_zero f _ (a ++ b.map (fun x => (x.1, -x.2))) (Nat.le_refl _) fun r => by
    rw [tot_app, tot_neg']
    have := wrp_dvd.1 (h r)
    rwa [← Int.sub_eq_add_neg]
  rwa [totF_app, totF_neg, ← Int.sub_eq_add_neg] at h2
theorem wt_app {a b c d : List It} (h1 : ∀ r, wt a r = wt c r) (h2 : ∀ r, wt b r = wt d r) : ∀ r, wt (a ++ b) r = wt (c ++ d) r := fun r => by
  unfold wt at *
  rw [tot_app, tot_app, wrp_dvd]
  have e1 := wrp_dvd.1 (h1 r)
  have e2 := wrp_dvd.1 (h2 r)
  have : tot r a + tot r b - (tot r c + tot r d) = (tot r a - tot r c) + (tot r b - tot r d) := by omega
  rw [this]
  exact Int.dvd_add e1 e2
theorem wt_neg {a b : List It} (h : ∀ r, wt a r = wt b r) : ∀ r, wt (a.map (fun x => (x.1, -x.2))) r = wt (b.map (fun x => (x.1, -x.2))) r := fun r => by
  unfold wt at *
  rw [tot_neg', tot_neg', wrp_dvd]
  have e1 := wrp_dvd.1 (h r)
  have : -tot r a - -tot r b = -(tot r a - tot r b) := by omega
  rw [this]
  exact Int.dvd_neg.2 e1
theorem wt_perm {a b : List It} (h : a.Perm b) : ∀ r, wt a r = wt b r := fun r => by unfold wt; rw [tot_perm h]
theorem wt_sumL (l : List It) : ∀ r, wt (sumL l) r = wt l r := (sumL_law l).2
theorem tot_where (p : List Int → Bool) (q : List Int) : ∀ A : List It, tot q (A.filter (fun x => p x.1)) = totF (fun r => if p r = true ∧ r = q then 1 else 0) A
  | [] => rfl
  | x :: A => by
    rw [totF, ← tot_where p q A]
    by_cases h : p x.1 = true
    · rw [List.filter_cons_of_pos (by simpa using h), tot]
      by_cases e : x.1 = q
      · rw [if_pos e, if_pos ⟨h, e⟩]; omega
      · rw [if_neg e, if_neg (fun h => e h.2)]; omega
    · rw [List.filter_cons_of_neg (by simpa using h), if_neg (fun q => h q.1)]; omega
theorem wt_where {a b : List It} (h : ∀ r, wt a r = wt b r) (p : List Int → Bool) : ∀ r, wt (a.filter (fun x => p x.1)) r = wt (b.filter (fun x => p x.1)) r := fun r => by
  have := totF_wt h (fun q => if p q = true ∧ q = r then 1 else 0)
  unfold wt
  rw [tot_where, tot_where]
  exact wrp_dvd.2 this
theorem tot_pick (g : List Int → List Int) (q : List Int) : ∀ A : List It, tot q (A.map (fun x => (g x.1, x.2))) = totF (fun r => if g r = q then 1 else 0) A
  | [] => rfl
  | x :: A => by
    rw [totF, ← tot_pick g q A, List.map_cons, tot]
    split <;> omega
theorem wt_pick {a b : List It} (h : ∀ r, wt a r = wt b r) (g : List Int → List Int) : ∀ r, wt (a.map (fun x => (g x.1, x.2))) r = wt (b.map (fun x => (g x.1, x.2))) r := fun r => by
  have := totF_wt h (fun q => if g q = r then 1 else 0)
  unfold wt
  rw [tot_pick, tot_pick]
  exact wrp_dvd.2 this
/-- Two sums are one where their weights are. -/
theorem sumL_same {a b : List It} (h : ∀ r, wt a r = wt b r) : sumL a = sumL b := sumL_wt h
end Go.Proofs.YtldlmkfigjicgaaGreatDoor
/- Queries over sets with weights: what query.Check and plain.All tell. No program in sight. -/
namespace Go.Proofs.YtldlmkfigjicgaaGreatDoor
set_option linter.unusedVariables false
set_option linter.unusedSimpArgs false

/-- A step of a query. -/
structure St where
  kind : Int
  a : Int
  b : Int
  col : Int
  op : Int
  val : Int
  list : List Int
instance : Inhabited St := ⟨⟨0, 0, 0, 0, 0, 0, []⟩⟩
def wiB (n lo hi : Int) : Bool := decide (lo ≤ n) && decide (n ≤ hi)
theorem wiB_iff {n lo hi : Int} : wiB n lo hi = true ↔ lo ≤ n ∧ n ≤ hi := by unfold wiB; simp
def twoB (s : St) : Bool := s.kind == 4 || (s.kind == 5 || s.kind == 6)
def noneB (s : St) : Bool := s.col == 0 && (s.op == 0 && s.val == 0)
def ofW (s : St) (a b : Int) : Int :=
  if s.kind = 2 then (if (wiB s.col 0 (a - 1) && (wiB s.op 1 3 && wiB s.val (-1073741824) 1073741824)) = true then a else 0)
  else if s.kind = 3 then (if (noneB s && (decide (s.list.length ≤ 8) && !s.list.any (fun n => !wiB n 0 (a - 1)))) = true then (s.list.length : Int) else 0)
  else if s.kind = 4 then (if (wiB s.col 0 (a - 1) && (s.op == 0 && (wiB s.val 0 (b - 1) && decide (a + b ≤ 8)))) = true then a + b else 0)
  else if s.kind = 5 ∨ s.kind = 6 then (if (noneB s && a == b) = true then a else 0)
  else if s.kind = 7 then (if noneB s = true then a else 0)
  else if s.kind = 8 then (if (wiB s.col 0 (a - 1) && (s.op == 0 && s.val == 0)) = true then 2 else 0)
  else if s.kind = 9 then (if (wiB s.col 0 (a - 1) && (s.op == 0 && wiB s.val 0 (a - 1))) = true then 2 else 0)
  else 0
def tblB (s : St) : Bool := wiB s.a 0 1 && (s.b == 0 && (s.col == 0 && (s.op == 0 && (s.val == 0 && s.list.length == 0))))
def badStep (s : St) (last : Int) : Bool := !wiB s.a 0 last || (twoB s && !wiB s.b 0 last || (!twoB s && s.b != 0 || (decide (0 < s.list.length) != (s.kind == 3))))
def stW (s : St) (W : List Int) : Int :=
  if s.kind = 1 then (if tblB s = true then 4 else 0)
  else if badStep s ((W.length : Int) - 1) = true then 0
  else ofW s (W.getD s.a.toNat 0) (W.getD s.b.toNat 0)
/-- Widths of all steps. -/
def widsL : List St → List Int → Option (List Int)
  | [], W => some W
  | s :: q, W => if stW s W = 0 then none else widsL q (W ++ [stW s W])
def queryE (q : List St) : Int := if q.length = 0 then 1 else if 8 < q.length then 2 else if widsL q [] = none then 1 else 0
def queryW (q : List St) : List Int := if queryE q = 0 then (widsL q []).getD [] else []
theorem widsL_app (q : List St) : ∀ (p : List St) (W : List Int), widsL (p ++ q) W = match widsL p W with | none => none | some V => widsL q V
  | [], W => rfl
  | s :: p, W => by
    rw [List.cons_append, widsL, widsL]
    by_cases h : stW s W = 0
    · rw [if_pos h, if_pos h]
    · rw [if_neg h, if_neg h, widsL_app q p]
theorem widsL_len : ∀ {q : List St} {W V : List Int}, widsL q W = some V → V.length = W.length + q.length ∧ V.take W.length = W
  | [], W, V, h => by
    rw [widsL] at h; injection h with h; subst h; simp
  | s :: q, W, V, h => by
    rw [widsL] at h
    by_cases e : stW s W = 0
    · rw [if_pos e] at h; cases h
    · rw [if_neg e] at h
      obtain ⟨h1, h2⟩ := widsL_len h
      rw [List.length_append, List.length_singleton] at h1 h2
      refine ⟨by rw [h1, List.length_cons]; omega, ?_⟩
      have := congrArg (List.take W.length) h2
      rw [List.take_take, Nat.min_eq_left (by omega), List.take_append_of_le_length (Nat.le_refl _), List.take_length] at this
      exact this
theorem queryE_zero {q : List St} : queryE q = 0 ↔ 0 < q.length ∧ q.length ≤ 8 ∧ ∃ W, widsL q [] = some W := by
  unfold queryE
  constructor
  · intro h
    by_cases h1 : q.length = 0
    · rw [if_pos h1] at h; omega
    · rw [if_neg h1] at h
      by_cases h2 : 8 < q.length
      · rw [if_pos h2] at h; omega
      · rw [if_neg h2] at h
        by_cases h3 : widsL q [] = none
        · rw [if_pos h3] at h; omega
        · exact ⟨by omega, by omega, Option.ne_none_iff_exists'.1 h3⟩
  · rintro ⟨h1, h2, W, h3⟩
    rw [if_neg (by omega), if_neg (by omega), if_neg (by rw [h3]; simp)]
/-- What a right step's numbers are. -/
def StOk (s : St) (W : List Int) : Prop :=
  (s.kind = 1 ∧ (s.a = 0 ∨ s.a = 1)) ∨
  (0 ≤ s.a ∧ s.a < W.length ∧ 0 ≤ s.b ∧ s.b < W.length ∧
    ((s.kind = 2 ∧ 0 ≤ s.col ∧ s.col < W.getD s.a.toNat 0) ∨
     (s.kind = 3 ∧ s.list.length ≤ 8 ∧ ∀ n ∈ s.list, 0 ≤ n ∧ n < W.getD s.a.toNat 0) ∨
     (s.kind = 4 ∧ 0 ≤ s.col ∧ s.col < W.getD s.a.toNat 0 ∧ 0 ≤ s.val ∧ s.val < W.getD s.b.toNat 0 ∧ W.getD s.a.toNat 0 + W.getD s.b.toNat 0 ≤ 8) ∨
     ((s.kind = 5 ∨ s.kind = 6) ∧ W.getD s.a.toNat 0 = W.getD s.b.toNat 0) ∨
     s.kind = 7 ∨
     (s.kind = 8 ∧ 0 ≤ s.col ∧ s.col < W.getD s.a.toNat 0) ∨
     (s.kind = 9 ∧ 0 ≤ s.col ∧ s.col < W.getD s.a.toNat 0 ∧ 0 ≤ s.val ∧ s.val < W.getD s.a.toNat 0)))
theorem stW_ok {s : St} {W : List Int} (h : stW s W ≠ 0) : StOk s W := by
  unfold stW at h
  unfold StOk
  by_cases h1 : s.kind = 1
  · rw [if_pos h1] at h
    by_cases h2 : tblB s = true
    · unfold tblB at h2
      simp only [Bool.and_eq_true, wiB_iff] at h2
      left; exact ⟨h1, by omega⟩
    · rw [if_neg h2] at h; exact absurd rfl h
  · rw [if_neg h1] at h
    by_cases h2 : badStep s ((W.length : Int) - 1) = true
    · rw [if_pos h2] at h; exact absurd rfl h
    · rw [if_neg h2] at h
      unfold badStep at h2
      simp only [Bool.or_eq_true, Bool.and_eq_true, Bool.not_eq_true', not_or, not_and, Bool.not_eq_false, Bool.not_eq_true, wiB_iff, bne_iff_ne, ne_eq, Decidable.not_not] at h2
      obtain ⟨q1, q2, q3, q4⟩ := h2
      right
      have hb : 0 ≤ s.b ∧ s.b < W.length := by
        cases e : twoB s
        · have := q3 e; omega
        · have := q2 e; omega
      refine ⟨by omega, by omega, hb.1, hb.2, ?_⟩
      unfold ofW noneB at h
      generalize W.getD s.a.toNat 0 = x at *
      generalize W.getD s.b.toNat 0 = y at *
      split at h
      · rename_i e
        left
        split at h
        · rename_i e2
          simp only [Bool.and_eq_true, wiB_iff] at e2
          exact ⟨e, by omega, by omega⟩
        · exact absurd rfl h
      · split at h
        · rename_i e
          right; left
          split at h
          · rename_i e2
            simp only [Bool.and_eq_true, decide_eq_true_eq, Bool.not_eq_true', List.any_eq_false, Bool.not_eq_false, wiB_iff] at e2
            exact ⟨e, e2.2.1, fun n hn => by have := e2.2.2 n hn; omega⟩
          · exact absurd rfl h
        · split at h
          · rename_i e
            right; right; left
            split at h
            · rename_i e2
              simp only [Bool.and_eq_true, decide_eq_true_eq, wiB_iff] at e2
              exact ⟨e, by omega, by omega, by omega, by omega, by omega⟩
            · exact absurd rfl h
          · split at h
            · rename_i e
              right; right; right; left
              split at h
              · rename_i e2
                simp only [Bool.and_eq_true, beq_iff_eq] at e2
                exact ⟨e, e2.2⟩
              · exact absurd rfl h
            · split at h
              · rename_i e
                exact .inr (.inr (.inr (.inr (.inl e))))
              · split at h
                · rename_i e
                  right; right; right; right; right; left
                  split at h
                  · rename_i e2
                    simp only [Bool.and_eq_true, wiB_iff] at e2
                    exact ⟨e, by omega, by omega⟩
                  · exact absurd rfl h
                · split at h
                  · rename_i e
                    right; right; right; right; right; right
                    split at h
                    · rename_i e2
                      simp only [Bool.and_eq_true, wiB_iff] at e2
                      exact ⟨e, by omega, by omega, by omega, by omega⟩
                    · exact absurd rfl h
                  · exact absurd rfl h

/-! what a step makes -/
def stHolds (op n v : Int) : Bool := if op = 1 then decide (n < v) else if op = 2 then decide (n = v) else decide (v < n)
def colD (r : List Int) (i : Int) : Int := r.getD i.toNat 0
def whereL (s : St) (A : List It) : List It := A.filter (fun x => stHolds s.op (colD x.1 s.col) s.val)
def pickR (s : St) (r : List Int) : List Int := s.list.map (fun i => colD r i)
def pickL (s : St) (A : List It) : List It := A.map (fun x => (pickR s x.1, x.2))
def linB (s : St) : Bool := s.kind == 2 || (s.kind == 3 || (s.kind == 5 || s.kind == 6))
def linL (s : St) (A B : List It) : List It :=
  if s.kind = 2 then whereL s A else if s.kind = 3 then pickL s A else if s.kind = 5 then A ++ B else if s.kind = 6 then A ++ negL B else []
def joinL (s : St) (A B : List It) : List It := A.flatMap (fun x => (B.filter (fun y => decide (colD y.1 s.val = colD x.1 s.col))).map (fun y => (x.1 ++ y.1, wrp (x.2 * y.2))))
def distL (A : List It) : List It := (A.filter (fun x => decide (0 < x.2))).map (fun x => (x.1, 1))
/-- A group: how many in all, and the sum. -/
def grpN (s : St) (A : List It) (k : Int) : Int := wrp (totF (fun r => if colD r s.col = k then 1 else 0) A)
def grpS (s : St) (A : List It) (k : Int) : Int := if s.kind = 9 then wrp (totF (fun r => if colD r s.col = k then colD r s.val else 0) A) else 0
def toldL (s : St) (k n m : Int) : List It := if n = 0 then [] else [([k, if s.kind = 9 then m else n], 1)]
/-- Each number once. -/
def dedupI : List Int → List Int
  | [] => []
  | x :: l => x :: (dedupI l).filter (fun y => decide (y ≠ x))
theorem dedupI_mem : ∀ (l : List Int) (x : Int), x ∈ dedupI l ↔ x ∈ l
  | [], x => by simp [dedupI]
  | y :: l, x => by
    rw [dedupI, List.mem_cons, List.mem_cons, List.mem_filter, dedupI_mem l x]
    by_cases e : x = y
    · simp [e]
    · simp [e]
theorem dedupI_nodup : ∀ l : List Int, (dedupI l).Nodup
  | [] => List.Pairwise.nil
  | y :: l => by
    rw [dedupI]
    refine List.nodup_cons.2 ⟨fun h => ?_, List.Pairwise.sublist List.filter_sublist (dedupI_nodup l)⟩
    have := (List.mem_filter.1 h).2
    simp at this
theorem dedupI_len : ∀ l : List Int, (dedupI l).length ≤ l.length
  | [] => Nat.le_refl _
  | y :: l => by
    rw [dedupI, List.length_cons, List.length_cons]
    have := List.length_filter_le (fun z => decide (z ≠ y)) (dedupI l)
    have := dedupI_len l
    omega
def keysG (s : St) (A : List It) : List Int := dedupI (A.map (fun x => colD x.1 s.col))
def groupL (s : St) (A : List It) : List It := (keysG s A).flatMap (fun k => toldL s k (grpN s A k) (grpS s A k))
def stL (s : St) (A B : List It) : List It :=
  if linB s = true then linL s A B else if s.kind = 4 then joinL s A B else if s.kind = 7 then distL A else if s.kind = 8 ∨ s.kind = 9 then groupL s A else []

/-- The list of a step, ahead of its sum. -/
def atL (ta tb : List It) (s : St) (out : List (List It)) : List It := if s.kind = 1 then (if s.a = 0 then ta else tb) else stL s (out.getD s.a.toNat []) (out.getD s.b.toNat [])
def setsG (ta tb : List It) : List St → List (List It) → Int × List (List It)
  | [], out => (0, out)
  | s :: q, out => if doneE (sumL (atL ta tb s out)) ≠ 0 then (doneE (sumL (atL ta tb s out)), []) else setsG ta tb q (out ++ [sumL (atL ta tb s out)])
def wideB (x : It) : Bool := decide (x.1.length ≠ 4)
def basesE (q : List St) (a b : List It) : Int := if queryE q ≠ 0 then queryE q else if setI a ≠ 0 then setI a else if setI b ≠ 0 then setI b else if (a ++ b).any wideB = true then 5 else 0
def allE (q : List St) (a b : List It) : Int := if basesE q a b ≠ 0 then basesE q a b else (setsG a b q []).1
def allX (q : List St) (a b : List It) : List (List It) := if allE q a b = 0 then (setsG a b q []).2 else []
def evalX (q : List St) (a b : List It) : List It := (allX q a b).getLastD []
theorem setsG_app (ta tb : List It) (q : List St) : ∀ (p : List St) (out : List (List It)), setsG ta tb (p ++ q) out = if (setsG ta tb p out).1 = 0 then setsG ta tb q (setsG ta tb p out).2 else setsG ta tb p out
  | [], out => by rw [List.nil_append, setsG, if_pos rfl]
  | s :: p, out => by
    rw [List.cons_append, setsG, setsG]
    by_cases h : doneE (sumL (atL ta tb s out)) ≠ 0
    · rw [if_pos h, if_pos h, if_neg h]
    · rw [if_neg h, if_neg h, setsG_app ta tb q p]
theorem setsG_len (ta tb : List It) : ∀ (q : List St) (out : List (List It)), (setsG ta tb q out).1 = 0 → (setsG ta tb q out).2.length = out.length + q.length ∧ (setsG ta tb q out).2.take out.length = out
  | [], out, _ => by rw [setsG]; simp
  | s :: q, out, h => by
    rw [setsG] at h ⊢
    by_cases e : doneE (sumL (atL ta tb s out)) ≠ 0
    · rw [if_pos e] at h; exact absurd h e
    · rw [if_neg e] at h ⊢
      obtain ⟨h1, h2⟩ := setsG_len ta tb q _ h
      rw [List.length_append, List.length_singleton] at h1 h2
      refine ⟨by rw [h1, List.length_cons]; omega, ?_⟩
      have := congrArg (List.take out.length) h2
      rw [List.take_take, Nat.min_eq_left (by omega), List.take_append_of_le_length (Nat.le_refl _), List.take_length] at this
      exact this
theorem basesE_zero {q : List St} {a b : List It} : basesE q a b = 0 ↔ queryE q = 0 ∧ setI a = 0 ∧ setI b = 0 ∧ (∀ x ∈ a, x.1.length = 4) ∧ ∀ x ∈ b, x.1.length = 4 := by
  unfold basesE
  constructor
  · intro h
    by_cases h1 : queryE q = 0
    · rw [if_neg (by simp [h1])] at h
      by_cases h2 : setI a = 0
      · rw [if_neg (by simp [h2])] at h
        by_cases h3 : setI b = 0
        · rw [if_neg (by simp [h3])] at h
          by_cases h4 : (a ++ b).any wideB = true
          · rw [if_pos h4] at h; omega
          · simp only [List.any_eq_true, not_exists, not_and, List.mem_append] at h4
            have key : ∀ x, x ∈ a ∨ x ∈ b → x.1.length = 4 := fun x hx => by
              have := h4 x hx
              unfold wideB at this
              simpa using this
            exact ⟨h1, h2, h3, fun x hx => key x (.inl hx), fun x hx => key x (.inr hx)⟩
        · rw [if_pos h3] at h; exact absurd h h3
      · rw [if_pos h2] at h; exact absurd h h2
    · rw [if_pos h1] at h; exact absurd h h1
  · rintro ⟨h1, h2, h3, h4, h5⟩
    rw [if_neg (by simp [h1]), if_neg (by simp [h2]), if_neg (by simp [h3]), if_neg]
    simp only [List.any_eq_true, not_exists, not_and, List.mem_append]
    rintro x (hx | hx)
    · unfold wideB; simp [h4 x hx]
    · unfold wideB; simp [h5 x hx]
end Go.Proofs.YtldlmkfigjicgaaGreatDoor
/- viewref.Widths, step by step: plain. -/
namespace Go.Proofs.YtldlmkfigjicgaaGreatDoor
set_option linter.unusedVariables false
set_option linter.unusedSimpArgs false

def refBad1 (s : St) (last : Int) : Bool := !wiB s.kind 1 9 || (!wiB s.a 0 last || ((!twoB s && s.b != 0) || ((twoB s && !wiB s.b 0 last) || (s.list.length != 0 && s.kind != 3))))
def refN (s : St) (a b : Int) : Int := if s.kind = 3 then (s.list.length : Int) else if s.kind = 4 then a + b else if s.kind = 8 ∨ s.kind = 9 then 2 else a
def refOk (s : St) (a b : Int) : Bool :=
  if s.kind = 2 then wiB s.op 1 3 && wiB s.val (-1073741824) 1073741824
  else if s.kind = 3 then wiB (s.list.length : Int) 1 8 && s.list.all (fun n => wiB n 0 (a - 1))
  else if s.kind = 4 then decide (a + b ≤ 8) && wiB s.val 0 (b - 1)
  else if s.kind = 5 ∨ s.kind = 6 then a == b
  else if s.kind = 9 then wiB s.val 0 (a - 1)
  else true
def refCol (s : St) : Bool := s.kind == 2 || (s.kind == 4 || (s.kind == 8 || s.kind == 9))
def refOp (s : St) : Bool := s.kind == 2
def refVal (s : St) : Bool := s.kind == 2 || (s.kind == 4 || s.kind == 9)
def refBad2 (s : St) (a b : Int) : Bool := !refOk s a b || ((refCol s && !wiB s.col 0 (a - 1)) || ((!refCol s && s.col != 0) || ((!refOp s && s.op != 0) || (!refVal s && s.val != 0))))
theorem ite_two {c1 c2 d1 d2 : Bool} {n : Int} (h : (c1 = false ∧ c2 = true) ↔ (d1 = false ∧ d2 = false)) : (if c1 = true then 0 else if c2 = true then n else 0) = (if d1 = true then 0 else if d2 = true then 0 else n) := by
  cases c1 <;> cases c2 <;> cases d1 <;> cases d2 <;> simp at h ⊢
theorem allWi_not (l : List Int) (a : Int) : l.all (fun n => wiB n 0 (a - 1)) = !l.any (fun n => !wiB n 0 (a - 1)) := by
  induction l with
  | nil => rfl
  | cons x l ih => simp only [List.all_cons, List.any_cons, ih]; cases wiB x 0 (a - 1) <;> simp
theorem ref_step (s : St) (W : List Int) (hk : s.kind ≠ 1) :
    stW s W = if refBad1 s ((W.length : Int) - 1) = true then 0 else if refBad2 s (W.getD s.a.toNat 0) (W.getD s.b.toNat 0) = true then 0 else refN s (W.getD s.a.toNat 0) (W.getD s.b.toNat 0) := by
  unfold stW
  rw [if_neg hk]
  generalize W.getD s.a.toNat 0 = a
  generalize W.getD s.b.toNat 0 = b
  generalize (W.length : Int) - 1 = last
  by_cases hw : wiB s.kind 1 9 = true
  · rw [wiB_iff] at hw
    obtain ⟨k, sa, sb, sc, so, sv, sl⟩ := s
    simp only at hk hw ⊢
    have hcase : k = 2 ∨ k = 3 ∨ k = 4 ∨ k = 5 ∨ k = 6 ∨ k = 7 ∨ k = 8 ∨ k = 9 := by omega
    rcases hcase with rfl | rfl | rfl | rfl | rfl | rfl | rfl | rfl
    · have e : ofW ⟨2, sa, sb, sc, so, sv, sl⟩ a b = if (wiB sc 0 (a - 1) && (wiB so 1 3 && wiB sv (-1073741824) 1073741824)) = true then a else 0 := rfl
      rw [e]
      refine ite_two ?_
      simp [badStep, refBad1, refBad2, twoB, refOk, refCol, refOp, refVal, wiB]
      try omega
    · have e : ofW ⟨3, sa, sb, sc, so, sv, sl⟩ a b = if (noneB ⟨3, sa, sb, sc, so, sv, sl⟩ && (decide (sl.length ≤ 8) && !sl.any (fun n => !wiB n 0 (a - 1)))) = true then (sl.length : Int) else 0 := rfl
      rw [e]
      refine ite_two ?_
      have e2 : refOk ⟨3, sa, sb, sc, so, sv, sl⟩ a b = (wiB (sl.length : Int) 1 8 && !sl.any (fun n => !wiB n 0 (a - 1))) := by rw [← allWi_not]; rfl
      unfold refBad2
      rw [e2]
      generalize sl.any (fun n => !wiB n 0 (a - 1)) = q
      cases q
      · simp [badStep, refBad1, twoB, refCol, refOp, refVal, noneB, wiB]
        omega
      · simp [badStep, refBad1, twoB, refCol, refOp, refVal, noneB, wiB]
    · have e : ofW ⟨4, sa, sb, sc, so, sv, sl⟩ a b = if (wiB sc 0 (a - 1) && (so == 0 && (wiB sv 0 (b - 1) && decide (a + b ≤ 8)))) = true then a + b else 0 := rfl
      rw [e]
      refine ite_two ?_
      simp [badStep, refBad1, refBad2, twoB, refOk, refCol, refOp, refVal, wiB]
      try omega
    · have e : ofW ⟨5, sa, sb, sc, so, sv, sl⟩ a b = if (noneB ⟨5, sa, sb, sc, so, sv, sl⟩ && a == b) = true then a else 0 := rfl
      rw [e]
      refine ite_two ?_
      simp [badStep, refBad1, refBad2, twoB, refOk, refCol, refOp, refVal, noneB, wiB]
      try omega
    · have e : ofW ⟨6, sa, sb, sc, so, sv, sl⟩ a b = if (noneB ⟨6, sa, sb, sc, so, sv, sl⟩ && a == b) = true then a else 0 := rfl
      rw [e]
      refine ite_two ?_
      simp [badStep, refBad1, refBad2, twoB, refOk, refCol, refOp, refVal, noneB, wiB]
      try omega
    · have e : ofW ⟨7, sa, sb, sc, so, sv, sl⟩ a b = if noneB ⟨7, sa, sb, sc, so, sv, sl⟩ = true then a else 0 := rfl
      rw [e]
      refine ite_two ?_
      simp [badStep, refBad1, refBad2, twoB, refOk, refCol, refOp, refVal, noneB, wiB]
      try omega
    · have e : ofW ⟨8, sa, sb, sc, so, sv, sl⟩ a b = if (wiB sc 0 (a - 1) && (so == 0 && sv == 0)) = true then 2 else 0 := rfl
      rw [e]
      refine ite_two ?_
      simp [badStep, refBad1, refBad2, twoB, refOk, refCol, refOp, refVal, wiB]
      try omega
    · have e : ofW ⟨9, sa, sb, sc, so, sv, sl⟩ a b = if (wiB sc 0 (a - 1) && (so == 0 && wiB sv 0 (a - 1))) = true then 2 else 0 := rfl
      rw [e]
      refine ite_two ?_
      simp [badStep, refBad1, refBad2, twoB, refOk, refCol, refOp, refVal, wiB]
      try omega
  · have hb : refBad1 s last = true := by unfold refBad1; rw [Bool.not_eq_true _ |>.mp hw]; rfl
    rw [hb, if_pos rfl]
    have ho : ofW s a b = 0 := by
      have hw' : ¬ (1 ≤ s.kind ∧ s.kind ≤ 9) := fun h => hw (wiB_iff.2 h)
      unfold ofW
      rw [if_neg (by omega), if_neg (by omega), if_neg (by omega), if_neg (by omega), if_neg (by omega), if_neg (by omega), if_neg (by omega)]
    rw [ho]
    split <;> rfl
end Go.Proofs.YtldlmkfigjicgaaGreatDoor
/- Sets with weights are a group: the plain law. -/
namespace Go.Proofs.YtldlmkfigjicgaaGreatDoor
set_option linter.unusedVariables false
set_option linter.unusedSimpArgs false

theorem norm_set {l : List It} (h : normE l = 0) : setI (normX l) = 0 ∧ normX l = sumL l := by
  have hx : normX l = sumL l := by unfold normX; rw [if_pos h]
  refine ⟨?_, hx⟩
  rw [hx]
  unfold normE at h
  by_cases h4 : 400 < l.length
  · rw [if_pos h4] at h; omega
  · rw [if_neg h4] at h
    by_cases hb : l.any badB = true
    · rw [if_pos hb] at h; omega
    · rw [if_neg hb] at h; exact done_set h
theorem tot_neg (r : List Int) : ∀ a : List It, tot r (negL a) = - tot r a
  | [] => rfl
  | x :: a => by
    have ih := tot_neg r a
    unfold negL at ih
    simp only [negL, List.map_cons, tot, ih]
    split <;> omega
theorem neg_set {a : List It} (h : setI a = 0) : setI (negL a) = 0 := by
  obtain ⟨h1, h2, h3⟩ := setI_zero.1 h
  have hb : ∀ x ∈ a, badB (x.1, -x.2) = false := fun x hx => by
    have := h2 x hx
    unfold badB farB at this ⊢
    simp only [Bool.or_eq_false_iff, decide_eq_false_iff_not] at this ⊢
    exact ⟨this.1, by omega, by omega⟩
  refine setI_zero.2 ⟨by unfold negL; rw [List.length_map]; exact h1, fun x hx => ?_, strict_of (fun x hx => ?_) ?_⟩
  · obtain ⟨y, hy, rfl⟩ := List.mem_map.1 hx; exact hb y hy
  · obtain ⟨y, hy, rfl⟩ := List.mem_map.1 hx
    have h5 := strict_ne h3 y hy
    have h6 := badB_false (h2 y hy)
    exact ⟨by simp only; omega, wrp_id (by simp only; omega)⟩
  · exact List.pairwise_map.2 ((strict_pair h3).imp fun {x y} h => h)
theorem addE_sets {a b : List It} (h1 : setI a = 0) (h2 : setI b = 0) : addE a b = doneE (sumL (a ++ b)) := by
  unfold addE; rw [if_neg (by simp [h1]), if_neg (by simp [h2])]
theorem add_neg {a : List It} (h : setI a = 0) : addE a (negL a) = 0 ∧ addX a (negL a) = [] := by
  have e : sumL (a ++ negL a) = [] := by
    refine (sumL_eq (S := []) trivial fun r => ?_).symm
    unfold wt
    rw [tot_app, tot_neg]
    have : tot r a + -tot r a = 0 := by omega
    rw [this]; rfl
  have e2 : addE a (negL a) = 0 := by rw [addE_sets h (neg_set h), e]; rfl
  exact ⟨e2, by unfold addX; rw [if_pos e2, e]⟩
theorem add_comm {a b : List It} (h1 : setI a = 0) (h2 : setI b = 0) : addE a b = addE b a ∧ addX a b = addX b a := by
  have e : addE a b = addE b a := by rw [addE_sets h1 h2, addE_sets h2 h1, sumL_comm]
  exact ⟨e, by unfold addX; rw [e, sumL_comm]⟩
theorem add_set {a b : List It} (h1 : setI a = 0) (h2 : setI b = 0) (h : addE a b = 0) : setI (addX a b) = 0 ∧ addX a b = sumL (a ++ b) := by
  have e : addX a b = sumL (a ++ b) := by unfold addX; rw [if_pos h]
  rw [addE_sets h1 h2] at h
  exact ⟨by rw [e]; exact done_set h, e⟩
theorem add_assoc {a b c : List It} (h1 : setI a = 0) (h2 : setI b = 0) (h3 : setI c = 0) (h4 : addE a b = 0) (h5 : addE b c = 0) : addE (addX a b) c = addE a (addX b c) ∧ addX (addX a b) c = addX a (addX b c) := by
  obtain ⟨s1, e1⟩ := add_set h1 h2 h4
  obtain ⟨s2, e2⟩ := add_set h2 h3 h5
  have k : sumL (addX a b ++ c) = sumL (a ++ addX b c) := by
    rw [e1, e2, sumL_app_sumL, sumL_comm a (sumL (b ++ c)), sumL_app_sumL, sumL_comm (b ++ c) a, List.append_assoc]
  have e : addE (addX a b) c = addE a (addX b c) := by rw [addE_sets s1 h3, addE_sets h1 s2, k]
  exact ⟨e, by unfold addX at k ⊢; rw [show addX a b = if addE a b = 0 then sumL (a ++ b) else [] from rfl, show addX b c = if addE b c = 0 then sumL (b ++ c) else [] from rfl] at e; rw [e, k]⟩
/-- The set that the law tries first. -/
theorem group_const : normE [([2], 1), ([1], 5), ([2], -1)] = 0 ∧ normX [([2], 1), ([1], 5), ([2], -1)] = [([1], 5)] := by
  have e : sumL [([2], 1), ([1], 5), ([2], -1)] = [([1], 5)] := by
    refine (sumL_eq (S := [([1], 5)]) ⟨by decide, by decide, by simp, trivial⟩ fun r => ?_).symm
    unfold wt
    simp only [tot]
    congr 1
    split <;> split <;> omega
  have e2 : normE [([2], 1), ([1], 5), ([2], -1)] = 0 := by
    unfold normE
    rw [if_neg (by decide), if_neg (by decide), e]
    decide
  exact ⟨e2, by unfold normX; rw [if_pos e2, e]⟩
end Go.Proofs.YtldlmkfigjicgaaGreatDoor
/- Queries over sets with weights: the plain laws of PlainParts and PlainLinear. No program in sight. -/
namespace Go.Proofs.YtldlmkfigjicgaaGreatDoor
set_option linter.unusedVariables false
set_option linter.unusedSimpArgs false

def wv (s : St) (W : List Int) : Int := if s.kind = 1 then 4 else if s.kind = 3 then (s.list.length : Int) else if s.kind = 4 then W.getD s.a.toNat 0 + W.getD s.b.toNat 0 else if s.kind = 8 ∨ s.kind = 9 then 2 else W.getD s.a.toNat 0
theorem stW_val {s : St} {W : List Int} (h : stW s W ≠ 0) : stW s W = wv s W := by
  unfold stW at h ⊢
  unfold wv
  by_cases h1 : s.kind = 1
  · rw [if_pos h1] at h ⊢
    rw [if_pos h1]
    split at h
    · rename_i e; rw [if_pos e]
    · exact absurd rfl h
  · rw [if_neg h1] at h ⊢
    rw [if_neg h1]
    split at h
    · exact absurd rfl h
    · rename_i e
      rw [if_neg e]
      unfold ofW at h ⊢
      generalize W.getD s.a.toNat 0 = x at *
      generalize W.getD s.b.toNat 0 = y at *
      by_cases k2 : s.kind = 2
      · rw [if_pos k2] at h ⊢
        split at h
        · rename_i e; rw [if_pos e, if_neg (show ¬ s.kind = 3 by omega), if_neg (show ¬ s.kind = 4 by omega), if_neg (show ¬ (s.kind = 8 ∨ s.kind = 9) by omega)]
        · exact absurd rfl h
      · rw [if_neg k2] at h ⊢
        by_cases k3 : s.kind = 3
        · rw [if_pos k3] at h ⊢
          split at h
          · rename_i e; rw [if_pos e, if_pos k3]
          · exact absurd rfl h
        · rw [if_neg k3] at h ⊢
          by_cases k4 : s.kind = 4
          · rw [if_pos k4] at h ⊢
            split at h
            · rename_i e; rw [if_pos e, if_neg (show ¬ s.kind = 3 by omega), if_pos k4]
            · exact absurd rfl h
          · rw [if_neg k4] at h ⊢
            by_cases k5 : s.kind = 5 ∨ s.kind = 6
            · rw [if_pos k5] at h ⊢
              split at h
              · rename_i e; rw [if_pos e, if_neg (show ¬ s.kind = 3 by omega), if_neg (show ¬ s.kind = 4 by omega), if_neg (show ¬ (s.kind = 8 ∨ s.kind = 9) by omega)]
              · exact absurd rfl h
            · rw [if_neg k5] at h ⊢
              by_cases k7 : s.kind = 7
              · rw [if_pos k7] at h ⊢
                split at h
                · rename_i e; rw [if_pos e, if_neg (show ¬ s.kind = 3 by omega), if_neg (show ¬ s.kind = 4 by omega), if_neg (show ¬ (s.kind = 8 ∨ s.kind = 9) by omega)]
                · exact absurd rfl h
              · rw [if_neg k7] at h ⊢
                by_cases k8 : s.kind = 8
                · rw [if_pos k8] at h ⊢
                  split at h
                  · rename_i e; rw [if_pos e, if_neg (show ¬ s.kind = 3 by omega), if_neg (show ¬ s.kind = 4 by omega), if_pos (show s.kind = 8 ∨ s.kind = 9 by omega)]
                  · exact absurd rfl h
                · rw [if_neg k8] at h ⊢
                  by_cases k9 : s.kind = 9
                  · rw [if_pos k9] at h ⊢
                    split at h
                    · rename_i e; rw [if_pos e, if_neg (show ¬ s.kind = 3 by omega), if_neg (show ¬ s.kind = 4 by omega), if_pos (show s.kind = 8 ∨ s.kind = 9 by omega)]
                    · exact absurd rfl h
                  · rw [if_neg k9] at h; exact absurd rfl h
/-- Right sets, of given widths. -/
def OkOut (out : List (List It)) (W : List Int) : Prop := out.length = W.length ∧ ∀ j, j < out.length → setI (out.getD j []) = 0 ∧ ∀ x ∈ out.getD j [], (x.1.length : Int) = W.getD j 0
theorem okOut_nil : OkOut [] [] := ⟨rfl, fun j h => by simp at h⟩
theorem OkOut.snoc {out : List (List It)} {W : List Int} (h : OkOut out W) {S : List It} {v : Int} (h1 : setI S = 0) (h2 : ∀ x ∈ S, (x.1.length : Int) = v) : OkOut (out ++ [S]) (W ++ [v]) := by
  obtain ⟨h3, h4⟩ := h
  refine ⟨by simp [h3], fun j hj => ?_⟩
  by_cases q : j < out.length
  · have e1 : (out ++ [S]).getD j [] = out.getD j [] := by simp [List.getD, List.getElem?_append_left q]
    have e2 : (W ++ [v]).getD j 0 = W.getD j 0 := by simp [List.getD, List.getElem?_append_left (h3 ▸ q : j < W.length)]
    rw [e1, e2]
    exact h4 j q
  · have e : j = out.length := by simp at hj; omega
    subst e
    have e1 : (out ++ [S]).getD out.length [] = S := by simp [List.getD]
    have e2 : (W ++ [v]).getD out.length 0 = v := by rw [h3]; simp [List.getD]
    rw [e1, e2]
    exact ⟨h1, h2⟩
theorem OkOut.get {out : List (List It)} {W : List Int} (h : OkOut out W) {i : Int} (h0 : 0 ≤ i) (h1 : i < W.length) : setI (out.getD i.toNat []) = 0 ∧ ∀ x ∈ out.getD i.toNat [], (x.1.length : Int) = W.getD i.toNat 0 := h.2 i.toNat (by rw [h.1]; omega)
theorem atL_wide {s : St} {W : List Int} {out : List (List It)} {ta tb : List It} (h : stW s W ≠ 0) (ho : OkOut out W) (ha : ∀ x ∈ ta, x.1.length = 4) (hb : ∀ x ∈ tb, x.1.length = 4) : ∀ x ∈ atL ta tb s out, (x.1.length : Int) = stW s W := by
  rw [stW_val h]
  intro x hx
  unfold atL at hx
  unfold wv
  rcases stW_ok h with ⟨k1, ka⟩ | ⟨a0, a1, b0, b1, hk⟩
  · rw [if_pos k1] at hx ⊢
    split at hx
    · have := ha x hx; omega
    · have := hb x hx; omega
  · obtain ⟨-, hA⟩ := ho.get a0 a1
    obtain ⟨-, hB⟩ := ho.get b0 b1
    have n1 : s.kind ≠ 1 := by omega
    rw [if_neg n1] at hx ⊢
    generalize out.getD s.a.toNat [] = A at *
    generalize out.getD s.b.toNat [] = B at *
    generalize W.getD s.a.toNat 0 = u at *
    generalize W.getD s.b.toNat 0 = v at *
    unfold stL linB linL at hx
    rcases hk with ⟨k, -⟩ | ⟨k, -⟩ | ⟨k, -⟩ | ⟨k, e⟩ | k | ⟨k, -⟩ | ⟨k, -⟩
    · rw [if_pos (by simp [k]), if_pos k] at hx
      rw [if_neg (by omega), if_neg (by omega), if_neg (by omega)]
      exact hA x (List.mem_filter.1 hx).1
    · rw [if_pos (by simp [k]), if_neg (by omega), if_pos k] at hx
      rw [if_pos k]
      obtain ⟨y, hy, rfl⟩ := List.mem_map.1 hx
      simp [pickR]
    · rw [if_neg (by simp [k]), if_pos k] at hx
      rw [if_neg (by omega), if_pos k]
      obtain ⟨y, hy, hx⟩ := List.mem_flatMap.1 hx
      obtain ⟨z, hz, rfl⟩ := List.mem_map.1 hx
      have := hA y hy
      have := hB z (List.mem_filter.1 hz).1
      simp only [List.length_append]
      omega
    · rw [if_pos (by rcases k with k | k <;> simp [k]), if_neg (by omega), if_neg (by omega)] at hx
      rw [if_neg (by omega), if_neg (by omega), if_neg (by omega)]
      have key : x ∈ A ∨ ∃ y ∈ B, y.1 = x.1 := by
        rcases k with k | k
        · rw [if_pos k] at hx
          rcases List.mem_append.1 hx with q | q
          · exact .inl q
          · exact .inr ⟨x, q, rfl⟩
        · rw [if_neg (by omega), if_pos k] at hx
          rcases List.mem_append.1 hx with q | q
          · exact .inl q
          · obtain ⟨y, hy, rfl⟩ := List.mem_map.1 q
            exact .inr ⟨y, hy, rfl⟩
      rcases key with q | ⟨y, hy, e2⟩
      · exact hA x q
      · rw [← e2, e]; exact hB y hy
    · rw [if_neg (by simp [k]), if_neg (by omega), if_pos k] at hx
      rw [if_neg (by omega), if_neg (by omega), if_neg (by omega)]
      obtain ⟨y, hy, rfl⟩ := List.mem_map.1 hx
      exact hA y (List.mem_filter.1 hy).1
    · rw [if_neg (by simp [k]), if_neg (by omega), if_neg (by omega), if_pos (by omega)] at hx
      rw [if_neg (by omega), if_neg (by omega), if_pos (by omega)]
      obtain ⟨y, hy, hx⟩ := List.mem_flatMap.1 hx
      unfold toldL at hx
      split at hx
      · simp at hx
      · rw [List.mem_singleton.1 hx]; rfl
    · rw [if_neg (by simp [k]), if_neg (by omega), if_neg (by omega), if_pos (by omega)] at hx
      rw [if_neg (by omega), if_neg (by omega), if_pos (by omega)]
      obtain ⟨y, hy, hx⟩ := List.mem_flatMap.1 hx
      unfold toldL at hx
      split at hx
      · simp at hx
      · rw [List.mem_singleton.1 hx]; rfl
theorem setsG_ok {ta tb : List It} (ha : ∀ x ∈ ta, x.1.length = 4) (hb : ∀ x ∈ tb, x.1.length = 4) : ∀ {q : List St} {out : List (List It)} {W V : List Int}, widsL q W = some V → OkOut out W → (setsG ta tb q out).1 = 0 → OkOut (setsG ta tb q out).2 V
  | [], out, W, V, h, ho, _ => by
    rw [widsL] at h; injection h with h; subst h; exact ho
  | s :: q, out, W, V, h, ho, h0 => by
    rw [widsL] at h
    rw [setsG] at h0 ⊢
    by_cases e : stW s W = 0
    · rw [if_pos e] at h; cases h
    · rw [if_neg e] at h
      by_cases d : doneE (sumL (atL ta tb s out)) ≠ 0
      · rw [if_pos d] at h0; exact absurd h0 d
      · rw [if_neg d] at h0 ⊢
        refine setsG_ok ha hb h (ho.snoc (done_set (by omega)) fun x hx => ?_) h0
        obtain ⟨y, hy, e2⟩ := sumL_mem hx
        rw [← e2]
        exact atL_wide e ho ha hb y hy
theorem allE_zero {q : List St} {a b : List It} : allE q a b = 0 ↔ basesE q a b = 0 ∧ (setsG a b q []).1 = 0 := by
  unfold allE
  constructor
  · intro h
    by_cases e : basesE q a b ≠ 0
    · rw [if_pos e] at h; exact absurd h e
    · rw [if_neg e] at h; exact ⟨by omega, h⟩
  · rintro ⟨h1, h2⟩
    rw [if_neg (by simp [h1]), h2]
theorem allX_zero {q : List St} {a b : List It} (h : allE q a b = 0) : allX q a b = (setsG a b q []).2 := by unfold allX; rw [if_pos h]
theorem all_ok {q : List St} {a b : List It} (h : allE q a b = 0) : ∃ W, widsL q [] = some W ∧ OkOut (allX q a b) W ∧ (allX q a b).length = q.length ∧ 0 < q.length := by
  obtain ⟨h1, h2⟩ := allE_zero.1 h
  obtain ⟨b1, b2, b3, b4, b5⟩ := basesE_zero.1 h1
  obtain ⟨q1, q2, W, q3⟩ := queryE_zero.1 b1
  rw [allX_zero h]
  refine ⟨W, q3, setsG_ok b4 b5 q3 okOut_nil h2, ?_, q1⟩
  rw [(setsG_len a b q [] h2).1]; simp
theorem widsL_pos : ∀ {q : List St} {W V : List Int}, widsL q W = some V → (∀ w ∈ W, w ≠ 0) → ∀ v ∈ V, v ≠ 0
  | [], W, V, h, hw => by rw [widsL] at h; injection h with h; subst h; exact hw
  | s :: q, W, V, h, hw => by
    rw [widsL] at h
    by_cases e : stW s W = 0
    · rw [if_pos e] at h; cases h
    · rw [if_neg e] at h
      refine widsL_pos h fun w hm => ?_
      rcases List.mem_append.1 hm with q | q
      · exact hw w q
      · rw [List.mem_singleton.1 q]; exact e

/-! the first steps alone -/
theorem take_law {q : List St} {a b : List It} (h : allE q a b = 0) {k : Nat} (hk : k < q.length) : allE (q.take (k + 1)) a b = 0 ∧ evalX (q.take (k + 1)) a b = (allX q a b).getD k [] := by
  obtain ⟨h1, h2⟩ := allE_zero.1 h
  obtain ⟨b1, b2, b3, b4, b5⟩ := basesE_zero.1 h1
  obtain ⟨q1, q2, W, q3⟩ := queryE_zero.1 b1
  have hs : q = q.take (k + 1) ++ q.drop (k + 1) := (List.take_append_drop ..).symm
  have hl : (q.take (k + 1)).length = k + 1 := by rw [List.length_take]; omega
  have e3 : ∃ V, widsL (q.take (k + 1)) [] = some V := by
    rw [hs, widsL_app] at q3
    cases e : widsL (q.take (k + 1)) [] with
    | none => rw [e] at q3; simp at q3
    | some V => exact ⟨V, rfl⟩
  have e4 : queryE (q.take (k + 1)) = 0 := queryE_zero.2 ⟨by omega, by omega, e3⟩
  have h3 := h2
  rw [hs, setsG_app] at h3
  have e5 : (setsG a b (q.take (k + 1)) []).1 = 0 := by
    by_cases e : (setsG a b (q.take (k + 1)) []).1 = 0
    · exact e
    · rw [if_neg e] at h3; exact h3
  have e6 : allE (q.take (k + 1)) a b = 0 := allE_zero.2 ⟨basesE_zero.2 ⟨e4, b2, b3, b4, b5⟩, e5⟩
  refine ⟨e6, ?_⟩
  rw [if_pos e5] at h3
  have l1 := (setsG_len a b _ _ e5).1
  rw [hl] at l1
  have l2 := (setsG_len a b _ _ h3).2
  unfold evalX
  rw [allX_zero e6, allX_zero h]
  have e7 : (setsG a b q []).2 = (setsG a b (q.drop (k + 1)) (setsG a b (q.take (k + 1)) []).2).2 := by
    conv => lhs; rw [hs, setsG_app, if_pos e5]
  rw [e7]
  generalize (setsG a b (q.take (k + 1)) []).2 = X at *
  generalize (setsG a b (q.drop (k + 1)) X).2 = Y at *
  have hX : X.length = k + 1 := by simpa using l1
  rw [← l2, List.getLastD_eq_getLast?, List.getLast?_take]
  rw [if_neg (by omega)]
  have hk2 : X.length - 1 = k := by omega
  rw [hk2]
  have hY : k < Y.length := by
    have := congrArg List.length l2
    rw [List.length_take] at this
    omega
  rw [List.getElem?_eq_getElem hY]
  simp [List.getD, hY]
/-- One step more, of the last one: it is there if its width is something, and its set may be. -/
theorem more_law {q : List St} {a b : List It} (h : allE q a b = 0) (hq : q.length ≤ 7) (s : St) (h1 : ∀ W, OkOut (allX q a b) W → W.length = q.length → (∀ w ∈ W, w ≠ 0) → stW s W ≠ 0) (h2 : doneE (sumL (atL a b s (allX q a b))) = 0) :
    allE (q ++ [s]) a b = 0 ∧ allX (q ++ [s]) a b = allX q a b ++ [sumL (atL a b s (allX q a b))] := by
  obtain ⟨W, hW, ho, hl, hp⟩ := all_ok h
  obtain ⟨g1, g2⟩ := allE_zero.1 h
  obtain ⟨b1, b2, b3, b4, b5⟩ := basesE_zero.1 g1
  have hwl := (widsL_len hW).1
  have hst := h1 W ho (by simpa using hwl) (widsL_pos hW (by simp))
  have e1 : queryE (q ++ [s]) = 0 := queryE_zero.2 ⟨by simp, by simp; omega, W ++ [stW s W], by rw [widsL_app, hW]; simp only [widsL]; rw [if_neg hst]⟩
  rw [allX_zero h] at h2 ⊢
  have e2 : setsG a b (q ++ [s]) [] = (0, (setsG a b q []).2 ++ [sumL (atL a b s (setsG a b q []).2)]) := by
    rw [setsG_app, if_pos g2, setsG, if_neg (by simp [h2]), setsG]
  have e3 : allE (q ++ [s]) a b = 0 := allE_zero.2 ⟨basesE_zero.2 ⟨e1, b2, b3, b4, b5⟩, by rw [e2]⟩
  exact ⟨e3, by rw [allX_zero e3, e2]⟩
theorem getD_last {α : Type} (l : List α) (d : α) (h : 0 < l.length) : l.getD (l.length - 1) d = l.getLastD d := by
  rw [List.getLastD_eq_getLast?, List.getLast?_eq_getElem?]; rfl
theorem sum_neg_self (a : List It) : sumL (a ++ negL a) = [] := by
  refine (sumL_eq (S := []) trivial fun r => ?_).symm
  unfold wt
  rw [tot_app, tot_neg]
  have : tot r a + -tot r a = 0 := by omega
  rw [this]; rfl
theorem stW_last {s : St} {W : List Int} {n : Nat} (hn : W.length = n + 1) (hw : ∀ w ∈ W, w ≠ 0) (ha : s.a = n) (hk : (s.kind = 6 ∧ s.b = n) ∨ (s.kind = 7 ∧ s.b = 0)) (h1 : s.col = 0) (h2 : s.op = 0) (h3 : s.val = 0) (h4 : s.list = []) : stW s W ≠ 0 := by
  have hg : W.getD n 0 ≠ 0 := by
    have : n < W.length := by omega
    rw [List.getD_eq_getElem?_getD, List.getElem?_eq_getElem this]
    exact hw _ (List.getElem_mem this)
  unfold stW
  rw [if_neg (by omega), if_neg]
  · unfold ofW noneB
    rw [ha]
    have e : ((n : Int)).toNat = n := by omega
    rw [e]
    rcases hk with ⟨k, hb⟩ | ⟨k, hb⟩
    · rw [hb, e, if_neg (by omega), if_neg (by omega), if_neg (by omega), if_pos (by omega), if_pos (by simp [h1, h2, h3])]
      exact hg
    · rw [if_neg (by omega), if_neg (by omega), if_neg (by omega), if_neg (by omega), if_pos k, if_pos (by simp [h1, h2, h3])]
      exact hg
  · unfold badStep
    have e : (((n + 1 : Nat) : Int) - 1) = (n : Int) := by omega
    rw [hn, e, ha, h4]
    have w1 : wiB (n : Int) 0 (n : Int) = true := wiB_iff.2 (by omega)
    rcases hk with ⟨k, hb⟩ | ⟨k, hb⟩
    · have t : twoB s = true := by simp [twoB, k]
      simp [t, hb, w1, k]
    · have t : twoB s = false := by simp [twoB, k]
      simp [t, hb, w1, k]
theorem none_law {q : List St} {a b : List It} (h : allE q a b = 0) (hq : q.length ≤ 6) : allE (q ++ [⟨6, (q.length : Int) - 1, (q.length : Int) - 1, 0, 0, 0, []⟩]) a b = 0 ∧ evalX (q ++ [⟨6, (q.length : Int) - 1, (q.length : Int) - 1, 0, 0, 0, []⟩]) a b = [] := by
  obtain ⟨W, hW, ho, hl, hp⟩ := all_ok h
  have e0 : ((q.length : Int) - 1) = ((q.length - 1 : Nat) : Int) := by omega
  rw [e0]
  have hat : atL a b ⟨6, ((q.length - 1 : Nat) : Int), ((q.length - 1 : Nat) : Int), 0, 0, 0, []⟩ (allX q a b) = evalX q a b ++ negL (evalX q a b) := by
    unfold atL stL linB linL evalX
    simp only [Int.toNat_natCast]
    rw [← hl, getD_last _ _ (by omega)]
    rfl
  obtain ⟨h1, h2⟩ := more_law h (by omega) ⟨6, ((q.length - 1 : Nat) : Int), ((q.length - 1 : Nat) : Int), 0, 0, 0, []⟩ (fun W _ hw hn => stW_last (n := q.length - 1) (by omega) hn rfl (.inl ⟨rfl, rfl⟩) rfl rfl rfl rfl) (by rw [hat, sum_neg_self]; rfl)
  refine ⟨h1, ?_⟩
  rw [evalX, h2, hat, sum_neg_self]
  simp
theorem dist_set {S : List It} (h : setI S = 0) : setI (distL S) = 0 ∧ sumL (distL S) = distL S ∧ distL (distL S) = distL S := by
  obtain ⟨h1, h2, h3⟩ := setI_zero.1 h
  have hmem : ∀ x ∈ distL S, ∃ y ∈ S, x = (y.1, 1) := fun x hx => by
    obtain ⟨y, hy, rfl⟩ := List.mem_map.1 hx
    exact ⟨y, (List.mem_filter.1 hy).1, rfl⟩
  have hs : setI (distL S) = 0 := by
    refine setI_zero.2 ⟨?_, fun x hx => ?_, strict_of (fun x hx => ?_) ?_⟩
    · unfold distL
      rw [List.length_map]
      exact Nat.le_trans (List.length_filter_le _ _) h1
    · obtain ⟨y, hy, rfl⟩ := hmem x hx
      have := h2 y hy
      unfold badB farB at this ⊢
      simp only [Bool.or_eq_false_iff, decide_eq_false_iff_not] at this ⊢
      exact ⟨this.1, by omega, by omega⟩
    · obtain ⟨y, hy, rfl⟩ := hmem x hx
      exact ⟨Int.one_ne_zero, wrp_id (show -9223372036854775808 ≤ (1 : Int) ∧ (1 : Int) ≤ 9223372036854775807 by decide)⟩
    · unfold distL
      exact List.pairwise_map.2 (List.Pairwise.sublist List.filter_sublist ((strict_pair h3).imp fun {x y} h => h))
  refine ⟨hs, sumL_strict (setI_zero.1 hs).2.2, ?_⟩
  have hf : (distL S).filter (fun x => decide (0 < x.2)) = distL S := List.filter_eq_self.2 fun x hx => by
    obtain ⟨y, hy, rfl⟩ := hmem x hx
    simp
  have hm : (distL S).map (fun x => (x.1, (1 : Int))) = distL S := by
    conv => rhs; rw [← List.map_id (distL S)]
    exact List.map_congr_left fun x hx => by
      obtain ⟨y, hy, rfl⟩ := hmem x hx
      rfl
  show ((distL S).filter (fun x => decide (0 < x.2))).map (fun x => (x.1, (1 : Int))) = distL S
  rw [hf, hm]
theorem set_done {S : List It} (h : setI S = 0) : doneE S = 0 := doneE_zero.2 ⟨(setI_zero.1 h).1, (setI_zero.1 h).2.1⟩
theorem once_law {q : List St} {a b : List It} (h : allE q a b = 0) (hq : q.length ≤ 6) :
    allE (q ++ [⟨7, (q.length : Int) - 1, 0, 0, 0, 0, []⟩]) a b = 0 ∧ allE (q ++ [⟨7, (q.length : Int) - 1, 0, 0, 0, 0, []⟩, ⟨7, (q.length : Int), 0, 0, 0, 0, []⟩]) a b = 0 ∧
    evalX (q ++ [⟨7, (q.length : Int) - 1, 0, 0, 0, 0, []⟩]) a b = evalX (q ++ [⟨7, (q.length : Int) - 1, 0, 0, 0, 0, []⟩, ⟨7, (q.length : Int), 0, 0, 0, 0, []⟩]) a b := by
  obtain ⟨W, hW, ho, hl, hp⟩ := all_ok h
  have e0 : ((q.length : Int) - 1) = ((q.length - 1 : Nat) : Int) := by omega
  rw [e0]
  have hset : setI (evalX q a b) = 0 := by
    have := (ho.2 (q.length - 1) (by omega)).1
    rwa [← hl, getD_last _ _ (by omega)] at this
  obtain ⟨d1, d2, d3⟩ := dist_set hset
  have hat : atL a b ⟨7, ((q.length - 1 : Nat) : Int), 0, 0, 0, 0, []⟩ (allX q a b) = distL (evalX q a b) := by
    unfold atL stL linB linL evalX
    simp only [Int.toNat_natCast]
    rw [← hl, getD_last _ _ (by omega)]
    rfl
  obtain ⟨h1, h2⟩ := more_law h (by omega) ⟨7, ((q.length - 1 : Nat) : Int), 0, 0, 0, 0, []⟩ (fun W _ hw hn => stW_last (n := q.length - 1) (by omega) hn rfl (.inr ⟨rfl, rfl⟩) rfl rfl rfl rfl) (by rw [hat, d2]; exact set_done d1)
  rw [hat, d2] at h2
  have he : evalX (q ++ [⟨7, ((q.length - 1 : Nat) : Int), 0, 0, 0, 0, []⟩]) a b = distL (evalX q a b) := by rw [evalX, h2]; simp
  have hl2 : (allX (q ++ [⟨7, ((q.length - 1 : Nat) : Int), 0, 0, 0, 0, []⟩]) a b).length = q.length + 1 := by rw [h2]; simp [hl]
  have hat2 : atL a b ⟨7, (q.length : Int), 0, 0, 0, 0, []⟩ (allX (q ++ [⟨7, ((q.length - 1 : Nat) : Int), 0, 0, 0, 0, []⟩]) a b) = distL (evalX q a b) := by
    unfold atL stL linB linL
    simp only [Int.toNat_natCast]
    have : (allX (q ++ [⟨7, ((q.length - 1 : Nat) : Int), 0, 0, 0, 0, []⟩]) a b).getD q.length [] = distL (evalX q a b) := by rw [h2, ← hl]; simp [List.getD]
    rw [this]
    exact d3
  obtain ⟨k1, k2⟩ := more_law h1 (by simp; omega) ⟨7, (q.length : Int), 0, 0, 0, 0, []⟩ (fun W _ hw hn => stW_last (n := q.length) (by simpa using hw) hn rfl (.inr ⟨rfl, rfl⟩) rfl rfl rfl rfl) (by rw [hat2, d2]; exact set_done d1)
  rw [hat2, d2] at k2
  rw [List.append_assoc] at k1 k2
  refine ⟨h1, k1, ?_⟩
  rw [he]
  have e3 : evalX (q ++ ([⟨7, ((q.length - 1 : Nat) : Int), 0, 0, 0, 0, []⟩] ++ [⟨7, (q.length : Int), 0, 0, 0, 0, []⟩])) a b = distL (evalX q a b) := by
    unfold evalX at k2 ⊢
    rw [k2]
    simp
  exact e3.symm

/-! what is linear -/
def Lin3 (X Y Z : List (List It)) : Prop := X.length = Z.length ∧ Y.length = Z.length ∧ ∀ j r, wt (Z.getD j []) r = wt (X.getD j [] ++ Y.getD j []) r
theorem wt_trans {a b c : List It} (h1 : ∀ r, wt a r = wt b r) (h2 : ∀ r, wt b r = wt c r) : ∀ r, wt a r = wt c r := fun r => (h1 r).trans (h2 r)
theorem Lin3.snoc {X Y Z : List (List It)} (h : Lin3 X Y Z) {x y z : List It} (hw : ∀ r, wt z r = wt (x ++ y) r) : Lin3 (X ++ [sumL x]) (Y ++ [sumL y]) (Z ++ [sumL z]) := by
  obtain ⟨h1, h2, h3⟩ := h
  refine ⟨by simp [h1], by simp [h2], fun j r => ?_⟩
  by_cases q : j < Z.length
  · have e1 : (X ++ [sumL x]).getD j [] = X.getD j [] := by simp [List.getD, List.getElem?_append_left (show j < X.length by omega)]
    have e2 : (Y ++ [sumL y]).getD j [] = Y.getD j [] := by simp [List.getD, List.getElem?_append_left (show j < Y.length by omega)]
    have e3 : (Z ++ [sumL z]).getD j [] = Z.getD j [] := by simp [List.getD, List.getElem?_append_left q]
    rw [e1, e2, e3]
    exact h3 j r
  · by_cases e : j = Z.length
    · subst e
      have e1 : (X ++ [sumL x]).getD Z.length [] = sumL x := by rw [← h1]; simp [List.getD]
      have e2 : (Y ++ [sumL y]).getD Z.length [] = sumL y := by rw [← h2]; simp [List.getD]
      have e3 : (Z ++ [sumL z]).getD Z.length [] = sumL z := by simp [List.getD]
      rw [e1, e2, e3]
      exact wt_trans (wt_sumL z) (wt_trans hw fun r => (wt_app (wt_sumL x) (wt_sumL y) r).symm) r
    · have e1 : (X ++ [sumL x]).getD j [] = [] := by rw [List.getD_eq_getElem?_getD, List.getElem?_eq_none (by simp; omega)]; rfl
      have e2 : (Y ++ [sumL y]).getD j [] = [] := by rw [List.getD_eq_getElem?_getD, List.getElem?_eq_none (by simp; omega)]; rfl
      have e3 : (Z ++ [sumL z]).getD j [] = [] := by rw [List.getD_eq_getElem?_getD, List.getElem?_eq_none (by simp; omega)]; rfl
      rw [e1, e2, e3]; rfl
theorem linL_law {s : St} {A B A' B' A'' B'' : List It} (hA : ∀ r, wt A'' r = wt (A ++ A') r) (hB : ∀ r, wt B'' r = wt (B ++ B') r) : ∀ r, wt (linL s A'' B'') r = wt (linL s A B ++ linL s A' B') r := by
  unfold linL
  by_cases k2 : s.kind = 2
  · simp only [if_pos k2]
    unfold whereL
    rw [← List.filter_append]
    exact wt_where hA (fun r => stHolds s.op (colD r s.col) s.val)
  · simp only [if_neg k2]
    by_cases k3 : s.kind = 3
    · simp only [if_pos k3]
      unfold pickL
      rw [← List.map_append]
      exact wt_pick hA (pickR s)
    · simp only [if_neg k3]
      by_cases k5 : s.kind = 5
      · simp only [if_pos k5]
        refine wt_trans (wt_app hA hB) (wt_perm ?_)
        rw [List.append_assoc, List.append_assoc]
        refine List.Perm.append_left A ?_
        rw [← List.append_assoc, ← List.append_assoc]
        exact List.Perm.append_right B' List.perm_append_comm
      · simp only [if_neg k5]
        by_cases k6 : s.kind = 6
        · simp only [if_pos k6]
          refine wt_trans (wt_app hA (wt_neg hB)) (wt_perm ?_)
          unfold negL
          rw [List.map_append, List.append_assoc, List.append_assoc]
          refine List.Perm.append_left A ?_
          rw [← List.append_assoc, ← List.append_assoc]
          exact List.Perm.append_right _ List.perm_append_comm
        · simp only [if_neg k6]
          intro r; rfl
theorem setsG_lin {a b c d ac bd : List It} (h1 : ∀ r, wt ac r = wt (a ++ c) r) (h2 : ∀ r, wt bd r = wt (b ++ d) r) : ∀ {q : List St} {X Y Z : List (List It)} {W V : List Int}, (∀ s ∈ q, s.kind ≠ 4 ∧ s.kind ≤ 6) → widsL q W = some V → Lin3 X Y Z →
    (setsG a b q X).1 = 0 → (setsG c d q Y).1 = 0 → (setsG ac bd q Z).1 = 0 → Lin3 (setsG a b q X).2 (setsG c d q Y).2 (setsG ac bd q Z).2
  | [], X, Y, Z, W, V, _, _, h, _, _, _ => h
  | s :: q, X, Y, Z, W, V, hk, hw, h, z1, z2, z3 => by
    rw [widsL] at hw
    rw [setsG] at z1 z2 z3 ⊢
    rw [setsG, setsG]
    by_cases e : stW s W = 0
    · rw [if_pos e] at hw; cases hw
    · rw [if_neg e] at hw
      by_cases d1 : doneE (sumL (atL a b s X)) ≠ 0
      · rw [if_pos d1] at z1; exact absurd z1 d1
      · rw [if_neg d1] at z1 ⊢
        by_cases d2 : doneE (sumL (atL c d s Y)) ≠ 0
        · rw [if_pos d2] at z2; exact absurd z2 d2
        · rw [if_neg d2] at z2 ⊢
          by_cases d3 : doneE (sumL (atL ac bd s Z)) ≠ 0
          · rw [if_pos d3] at z3; exact absurd z3 d3
          · rw [if_neg d3] at z3 ⊢
            refine setsG_lin h1 h2 (fun s hs => hk s (by simp [hs])) hw (h.snoc ?_) z1 z2 z3
            have hks := hk s (by simp)
            unfold atL
            rcases stW_ok e with ⟨k1, _⟩ | ⟨_, _, _, _, hk7⟩
            · simp only [if_pos k1]
              split
              · exact h1
              · exact h2
            · have n1 : s.kind ≠ 1 := by omega
              simp only [if_neg n1]
              have hl : linB s = true := by
                unfold linB
                simp only [Bool.or_eq_true, beq_iff_eq]
                omega
              unfold stL
              simp only [if_pos hl]
              exact linL_law (h.2.2 _) (h.2.2 _)
theorem linear_law {q : List St} {a b c d : List It} (hk : ∀ s ∈ q, s.kind ≠ 4 ∧ s.kind ≤ 6) (h1 : allE q a b = 0) (h2 : allE q c d = 0) (h3 : addE a c = 0) (h4 : addE b d = 0) (h5 : allE q (addX a c) (addX b d) = 0) (h6 : addE (evalX q a b) (evalX q c d) = 0) :
    evalX q (addX a c) (addX b d) = addX (evalX q a b) (evalX q c d) := by
  obtain ⟨W, hW, ho, hl, hp⟩ := all_ok h5
  obtain ⟨g1, g2⟩ := allE_zero.1 h1
  obtain ⟨-, g4⟩ := allE_zero.1 h2
  obtain ⟨-, g6⟩ := allE_zero.1 h5
  have e1 : addX a c = sumL (a ++ c) := by unfold addX; rw [if_pos h3]
  have e2 : addX b d = sumL (b ++ d) := by unfold addX; rw [if_pos h4]
  have hL := setsG_lin (X := []) (Y := []) (Z := []) (a := a) (b := b) (c := c) (d := d) (ac := addX a c) (bd := addX b d) (by rw [e1]; exact wt_sumL _) (by rw [e2]; exact wt_sumL _) hk hW ⟨rfl, rfl, fun _ _ => rfl⟩ g2 g4 g6
  rw [← allX_zero h1, ← allX_zero h2, ← allX_zero h5] at hL
  obtain ⟨l1, l2, l3⟩ := hL
  have l4 := l3 (q.length - 1)
  have hset := (ho.2 (q.length - 1) (by omega)).1
  have s1 : (allX q (addX a c) (addX b d)).getD (q.length - 1) [] = evalX q (addX a c) (addX b d) := by rw [← hl, getD_last _ _ (by omega)]; rfl
  have s2 : (allX q a b).getD (q.length - 1) [] = evalX q a b := by rw [← hl, ← l1, getD_last _ _ (by omega)]; rfl
  have s3 : (allX q c d).getD (q.length - 1) [] = evalX q c d := by rw [← hl, ← l2, getD_last _ _ (by omega)]; rfl
  rw [s1] at hset
  rw [s1, s2, s3] at l4
  have e3 : addX (evalX q a b) (evalX q c d) = sumL (evalX q a b ++ evalX q c d) := by unfold addX; rw [if_pos h6]
  rw [e3]
  exact sumL_eq (setI_zero.1 hset).2.2 l4
end Go.Proofs.YtldlmkfigjicgaaGreatDoor
