/- SetP, RkP, ZsR, ZsO, ZsW, ZsE, StbW, Shelf, ZsA, ZsB, ZsC -/
import Derived.Test.YtldlmkfigjicgaaDoorRankSaysCardS01
import Derived.Deep.CutBlock
import Derived.Deep.CutRange
import Derived.BigRegion
import Derived.Deep.LoopGhost
import Derived.Outline
import Derived.Shelf.SlSortCmp.QuietGrown
import Derived.Shelf.SlSortCmp.WholeK
import Derived.Ground.SlsfProg
import Derived.Test.YtldlmkfigjicgaaDoorRows
import Derived.WalkSpells
/- Sets with weights: what a right set is; what Norm, Add, Neg tell. No program in sight. -/
namespace Go.Proofs.YtldlmkfigjicgaaDoor
set_option linter.unusedVariables false

def farB (n : Int) : Bool := decide (n < -1048576) || decide (1048576 < n)
def outB (n : Int) : Bool := decide (n < -1073741824) || decide (1073741824 < n)
def rowB (r : List Int) : Bool := decide (r.length ≤ 8) && !r.any outB
def badB (x : It) : Bool := !rowB x.1 || farB x.2
/-- Is the i-th item of a list wrong? -/
def zbadAt (L : List It) : Nat → Bool
  | 0 => match L[0]? with | none => false | some x => badB x || decide (x.2 = 0)
  | k + 1 => match L[k]?, L[k + 1]? with | some y, some x => (badB x || decide (x.2 = 0)) || decide (0 ≤ cmpL y.1 x.1) | _, _ => false
def setI (L : List It) : Int := if 400 < L.length then 2 else if (List.range L.length).any (zbadAt L) = true then 5 else 0
theorem badAt_zero {L : List It} (h : 0 < L.length) : zbadAt L 0 = (badB L[0] || decide (L[0].2 = 0)) := by
  rw [zbadAt, List.getElem?_eq_getElem h]
theorem badAt_succ {L : List It} {k : Nat} (h : k + 1 < L.length) : zbadAt L (k + 1) = ((badB L[k + 1] || decide (L[k + 1].2 = 0)) || decide (0 ≤ cmpL L[k].1 L[k + 1].1)) := by
  rw [zbadAt, List.getElem?_eq_getElem h, List.getElem?_eq_getElem (show k < L.length by omega)]

theorem badB_false {x : It} (h : badB x = false) : x.1.length ≤ 8 ∧ -1048576 ≤ x.2 ∧ x.2 ≤ 1048576 := by
  unfold badB rowB farB at h
  simp only [Bool.or_eq_false_iff, Bool.not_eq_false', Bool.and_eq_true, decide_eq_true_eq, decide_eq_false_iff_not] at h
  omega
theorem rise_trans {L : List It} (h : ∀ k, (hk : k + 1 < L.length) → cmpL L[k].1 L[k + 1].1 < 0) : ∀ (d i : Nat) (hd : i + d + 1 < L.length), cmpL L[i].1 L[i + d + 1].1 < 0
  | 0, i, hd => h i hd
  | d + 1, i, hd => cmpL_lt_le (rise_trans h d i (by omega)) (Int.le_of_lt (h (i + d + 1) hd))
theorem strict_of : ∀ {L : List It}, (∀ x ∈ L, x.2 ≠ 0 ∧ wrp x.2 = x.2) → L.Pairwise (fun x y => cmpL x.1 y.1 < 0) → Strict L
  | [], _, _ => trivial
  | x :: L, h, hp => ⟨(h x (by simp)).1, (h x (by simp)).2, fun y hy => (List.pairwise_cons.1 hp).1 y hy, strict_of (fun y hy => h y (by simp [hy])) (List.pairwise_cons.1 hp).2⟩
theorem strict_pair : ∀ {L : List It}, Strict L → L.Pairwise (fun x y => cmpL x.1 y.1 < 0)
  | [], _ => List.Pairwise.nil
  | x :: L, h => List.pairwise_cons.2 ⟨fun y hy => h.2.2.1 y hy, strict_pair h.2.2.2⟩
theorem strict_ne : ∀ {L : List It}, Strict L → ∀ x ∈ L, x.2 ≠ 0
  | x :: L, h, y, hy => by
    rcases List.mem_cons.1 hy with e | e
    · rw [e]; exact h.1
    · exact strict_ne h.2.2.2 y e
/-- A right set. -/
theorem setI_zero {L : List It} : setI L = 0 ↔ L.length ≤ 400 ∧ (∀ x ∈ L, badB x = false) ∧ Strict L := by
  unfold setI
  constructor
  · intro h
    by_cases h4 : 400 < L.length
    · rw [if_pos h4] at h; omega
    · rw [if_neg h4] at h
      by_cases hb : (List.range L.length).any (zbadAt L) = true
      · rw [if_pos hb] at h; omega
      · have hno : ∀ i, i < L.length → zbadAt L i = false := fun i hi => by
          cases hq : zbadAt L i
          · rfl
          · exact absurd (List.any_eq_true.2 ⟨i, List.mem_range.2 hi, hq⟩) hb
        have hx : ∀ i, (hi : i < L.length) → badB L[i] = false ∧ L[i].2 ≠ 0 := fun i hi => by
          have := hno i hi
          cases i with
          | zero => rw [badAt_zero hi] at this; simpa using this
          | succ k => rw [badAt_succ hi] at this; simp at this; exact ⟨this.1.1, this.1.2⟩
        have hr : ∀ k, (hk : k + 1 < L.length) → cmpL L[k].1 L[k + 1].1 < 0 := fun k hk => by
          have := hno (k + 1) hk
          rw [badAt_succ hk] at this; simp at this; exact this.2
        have hb' : ∀ x ∈ L, badB x = false := fun x hxm => by
          obtain ⟨i, hi, rfl⟩ := List.getElem_of_mem hxm
          exact (hx i hi).1
        refine ⟨by omega, hb', strict_of (fun x hxm => ?_) (List.pairwise_iff_getElem.2 fun i j hi hj hij => ?_)⟩
        · obtain ⟨i, hi, rfl⟩ := List.getElem_of_mem hxm
          refine ⟨(hx i hi).2, wrp_id ?_⟩
          have := badB_false (hx i hi).1
          omega
        · have := rise_trans hr (j - i - 1) i (by omega)
          simpa [show i + (j - i - 1) + 1 = j by omega] using this
  · rintro ⟨h1, h2, h3⟩
    rw [if_neg (by omega), if_neg]
    intro hb
    obtain ⟨i, hi, e⟩ := List.any_eq_true.1 hb
    have hi' := List.mem_range.1 hi
    have hp := strict_pair h3
    cases i with
    | zero => rw [badAt_zero hi', h2 _ (List.getElem_mem hi')] at e; simp at e; exact strict_ne h3 _ (List.getElem_mem hi') e
    | succ k =>
      rw [badAt_succ hi', h2 _ (List.getElem_mem hi')] at e
      have hq := List.pairwise_iff_getElem.1 hp k (k + 1) (by omega) hi' (by omega)
      simp at e
      rcases e with e | e
      · exact strict_ne h3 _ (List.getElem_mem hi') e
      · omega
/-- What is wrong with a sum. -/
def doneE (S : List It) : Int := if S.any badB = true then 5 else if 400 < S.length then 2 else 0
theorem doneE_zero {S : List It} : doneE S = 0 ↔ S.length ≤ 400 ∧ ∀ x ∈ S, badB x = false := by
  unfold doneE
  constructor
  · intro h
    by_cases hb : S.any badB = true
    · rw [if_pos hb] at h; omega
    · rw [if_neg hb] at h
      by_cases h4 : 400 < S.length
      · rw [if_pos h4] at h; omega
      · refine ⟨by omega, fun x hx => ?_⟩
        cases hq : badB x
        · rfl
        · exact absurd (List.any_eq_true.2 ⟨x, hx, hq⟩) hb
  · rintro ⟨h1, h2⟩
    rw [if_neg, if_neg (by omega)]
    intro hb
    obtain ⟨x, hx, e⟩ := List.any_eq_true.1 hb
    rw [h2 x hx] at e; cases e
/-- A sum that is done is a right set. -/
theorem done_set {l : List It} (h : doneE (sumL l) = 0) : setI (sumL l) = 0 := by
  obtain ⟨h1, h2⟩ := doneE_zero.1 h
  exact setI_zero.2 ⟨h1, h2, (sumL_law l).1⟩
def addE (a b : List It) : Int := if setI a ≠ 0 then setI a else if setI b ≠ 0 then setI b else doneE (sumL (a ++ b))
def addX (a b : List It) : List It := if addE a b = 0 then sumL (a ++ b) else []
def negL (l : List It) : List It := l.map (fun x => (x.1, -x.2))
end Go.Proofs.YtldlmkfigjicgaaDoor
/- Rows in an order: the plain law (rank.Rows, RankSorts). -/
namespace Go.Proofs.YtldlmkfigjicgaaDoor
set_option linter.unusedVariables false
set_option linter.unusedSimpArgs false

/-- A row's column by a number of an order: turned, if the number is below nothing. -/
def colv (n : Int) (r : List Int) : Int := if n < 0 then -(r.getD (-n - 1).toNat 0) else r.getD (n - 1).toNat 0
def byKey (bs : List Int) (r : List Int) : List Int := bs.map (fun n => colv n r) ++ r
def cmpBy (bs : List Int) (a b : List Int) : Int := cmpL (byKey bs a) (byKey bs b)
theorem cmpBy_nil (a b : List Int) : cmpBy [] a b = cmpL a b := rfl
theorem cmpBy_cons (n : Int) (bs a b : List Int) : cmpBy (n :: bs) a b = if colv n a < colv n b then -1 else if colv n b < colv n a then 1 else cmpBy bs a b := by
  show cmpL (colv n a :: byKey bs a) (colv n b :: byKey bs b) = _
  rw [cmpL]; rfl
theorem cmpBy_self (bs a : List Int) : cmpBy bs a a = 0 := cmpL_self _
theorem cmpBy_eq (bs a b : List Int) (h : cmpBy bs a b = 0) : a = b := by
  have := cmpL_eq _ _ h
  unfold byKey at this
  exact (List.append_inj this (by simp)).2
theorem cmpBy_neg (bs a b : List Int) : cmpBy bs b a = - cmpBy bs a b := cmpL_neg _ _
def byLt (bs : List Int) (x y : It) : Bool := decide (cmpBy bs x.1 y.1 < 0)
def byLe (bs : List Int) (x y : It) : Bool := decide (cmpBy bs x.1 y.1 ≤ 0)

def widI (l : List It) : Int := match l with
  | [] => 8
  | x :: _ => if l.any (fun y => decide (y.1.length ≠ x.1.length)) = true then -1 else (x.1.length : Int)
def manyB (x : It) : Bool := decide (x.2 < 0) || decide (400 < x.2)
def wrongB (n k : Int) : Bool := decide (k = 0) || decide (k < -n) || decide (n < k)
def rankE (l : List It) (bs : List Int) (most : Int) : Int :=
  if setI l ≠ 0 then setI l else if (decide (widI l < 0) || l.any manyB) = true then 5 else if (decide (8 < bs.length) || bs.any (wrongB (widI l)) || decide (most < 0) || decide (400 < most)) = true then 1 else 0
def expd (L : List It) : List (List Int) := L.flatMap (fun x => List.replicate x.2.toNat x.1)
def rankX (l : List It) (bs : List Int) (most : Int) : List (List Int) := if rankE l bs most = 0 then (expd (l.mergeSort (byLe bs))).take most.toNat else []
theorem rankE_zero {l : List It} {bs : List Int} {most : Int} (h : rankE l bs most = 0) : setI l = 0 ∧ 0 ≤ widI l ∧ (∀ x ∈ l, 0 ≤ x.2 ∧ x.2 ≤ 400) ∧ bs.length ≤ 8 ∧ (∀ k ∈ bs, k ≠ 0 ∧ -widI l ≤ k ∧ k ≤ widI l) ∧ 0 ≤ most ∧ most ≤ 400 := by
  unfold rankE at h
  by_cases h1 : setI l = 0
  · rw [if_neg (by simp [h1])] at h
    by_cases h2 : (decide (widI l < 0) || l.any manyB) = true
    · rw [if_pos h2] at h; omega
    · rw [if_neg h2] at h
      by_cases h3 : (decide (8 < bs.length) || bs.any (wrongB (widI l)) || decide (most < 0) || decide (400 < most)) = true
      · rw [if_pos h3] at h; omega
      · simp only [Bool.or_eq_true, decide_eq_true_eq, not_or, List.any_eq_true, not_exists, not_and] at h2 h3
        refine ⟨h1, by omega, fun x hx => ?_, by omega, fun k hk => ?_, by omega, by omega⟩
        · have := h2.2 x hx
          unfold manyB at this
          simp only [Bool.or_eq_true, decide_eq_true_eq, not_or] at this
          omega
        · have := h3.1.1.2 k hk
          unfold wrongB at this
          simp only [Bool.or_eq_true, decide_eq_true_eq, not_or] at this
          omega
  · rw [if_pos h1] at h; exact absurd h h1
theorem wid_rows {l : List It} (h : 0 ≤ widI l) : ∀ x ∈ l, (x.1.length : Int) = widI l := by
  cases l with
  | nil => intro x hx; simp at hx
  | cons y l =>
    unfold widI at h ⊢
    simp only at h ⊢
    by_cases q : (y :: l).any (fun z => decide (z.1.length ≠ y.1.length)) = true
    · rw [if_pos q] at h; omega
    · intro x hx
      rw [if_neg q]
      rw [List.any_eq_true, not_exists] at q
      have := q x
      simp only [not_and, decide_eq_true_eq, ne_eq, Decidable.not_not] at this
      rw [this hx]
theorem rankX_len (l : List It) (bs : List Int) (most : Int) : (rankX l bs most).length ≤ most.toNat := by
  unfold rankX
  split
  · exact List.length_take_le _ _
  · exact Nat.zero_le _

/-- The items in their order, however they were sorted. -/
theorem sorted_one {l l' : List It} {bs : List Int} (hs : Strict l) (hp : l'.Perm l) (hso : l'.Pairwise (fun x y => byLt bs y x = false)) : l' = l.mergeSort (byLe bs) := by
  have hm : (l.mergeSort (byLe bs)).Pairwise (fun x y => byLe bs x y = true) := List.pairwise_mergeSort (fun a b c h1 h2 => by
    unfold byLe cmpBy at *
    simp only [decide_eq_true_eq] at *
    exact (cmpL_trans _ _ _ h1 h2).1) (fun a b => by
    unfold byLe
    have := cmpBy_neg bs a.1 b.1
    simp only [Bool.or_eq_true, decide_eq_true_eq]
    omega) l
  have hd : ∀ x ∈ l, ∀ y ∈ l, x.1 = y.1 → x = y := by
    intro x hx y hy e
    by_cases q : x = y
    · exact q
    · exfalso
      have hpw := strict_pair hs
      have key : ∀ {L : List It}, L.Pairwise (fun x y => cmpL x.1 y.1 < 0) → x ∈ L → y ∈ L → False := by
        intro L hL
        induction L with
        | nil => intro h; simp at h
        | cons z L ih =>
          obtain ⟨p1, p2⟩ := List.pairwise_cons.1 hL
          intro h1 h2
          rcases List.mem_cons.1 h1 with e1 | e1 <;> rcases List.mem_cons.1 h2 with e2 | e2
          · exact q (e1.trans e2.symm)
          · have := p1 y e2; rw [← e1, e, cmpL_self] at this; omega
          · have := p1 x e1; rw [← e2, ← e, cmpL_self] at this; omega
          · exact ih p2 e1 e2
      exact key hpw hx hy
  refine List.Perm.eq_of_pairwise (le := fun x y => byLe bs x y = true) ?_ (hso.imp fun {x y} h => ?_) hm (hp.trans (List.mergeSort_perm _ _).symm)
  · intro x y hx hy h1 h2
    refine hd x (hp.subset hx) y ((List.mergeSort_perm _ _).subset hy) (cmpBy_eq bs _ _ ?_)
    unfold byLe at h1 h2
    have := cmpBy_neg bs x.1 y.1
    simp only [decide_eq_true_eq] at h1 h2
    omega
  · unfold byLt at h
    unfold byLe
    have := cmpBy_neg bs x.1 y.1
    simp only [decide_eq_false_iff_not, decide_eq_true_eq] at h ⊢
    omega

theorem expd_pair {bs : List Int} : ∀ {L : List It}, L.Pairwise (fun x y => byLe bs x y = true) → (expd L).Pairwise (fun a b => cmpBy bs a b ≤ 0)
  | [], _ => List.Pairwise.nil
  | x :: L, h => by
    obtain ⟨h1, h2⟩ := List.pairwise_cons.1 h
    have ih := expd_pair h2
    unfold expd at *
    rw [List.flatMap_cons]
    refine List.pairwise_append.2 ⟨?_, ih, fun a ha b hb => ?_⟩
    · refine List.pairwise_replicate.2 (.inr ?_)
      rw [cmpBy_self]; omega
    · rw [(List.mem_replicate.1 ha).2]
      obtain ⟨y, hy, hb⟩ := List.mem_flatMap.1 hb
      rw [(List.mem_replicate.1 hb).2]
      exact of_decide_eq_true (h1 y hy)
end Go.Proofs.YtldlmkfigjicgaaDoor
/- Sets with weights: which rows and weights may be; slices.IndexFunc, ContainsFunc at int. -/
namespace Go.Proofs.YtldlmkfigjicgaaDoor
set_option linter.unusedVariables false
set_option linter.unusedSimpArgs false
open Go.ChangeShapes Go.WideShapes Go.ChangeAt Go.RowKit

/-- An index that IndexFunc tells: at least 0 just if there is one. -/
def FoundAt (p : Prop) (w : World) (e : Ending) (w' : World) : Prop := ∃ i : Int, e = .returned (.int .i64 i) ∧ (0 ≤ i ↔ p) ∧ Below w.heap.size w w'
/-- What is asked of a function value: handed an element of the list, in whatever later world, it answers p, and leaves what was there. -/
def PredNt (g : Nat) (caps : Array Value) (p : Int → Bool) (L : List Int) (w : World) : Prop :=
  ∀ w', Below w.heap.size w w' → ∀ x ∈ L, Calls Tryd.prog g (#[.int .i64 x] ++ caps) w' fun e w'' => e = .returned (.bool (p x)) ∧ Below w'.heap.size w' w''
set_option maxHeartbeats 400000 in
set_option maxRecDepth 100000 in
theorem indexNt_any (g : Nat) (caps : Array Value) (p : Int → Bool) (L : List Int) (A : Option Addr) (c : Nat) (w : World) (hr : Row w w.heap.size A (icells' L)) (hl : L.length ≤ 9223372036854775807)
    (eg : ∀ args w, (callFunc g args).run Tryd.prog w = .ok (.enter g args) w) (hp : PredNt g caps p L w) :
    Calls Tryd.prog 53 #[.slice A L.length c, .func (.func g) #[] caps] w (FoundAt (L.any p = true) w) := by
  have HR := hid hr
  clear hr
  go_enter Tryd.func53, Tryd.ntmps53
  go_wp2
  go_loopw [8] (fun i wr => (∃ k : Nat, k ≤ L.length ∧ i = .int .i64 k ∧ ∀ j (h : j < L.length), j < k → p L[j] = false) ∧ Below w.heap.size w wr) (fun i _ => L.length - (intOf i).toNat)
  case atStart => exact ⟨⟨0, by omega, rfl, fun j _ h => absurd h (by omega)⟩, Below.refl _ _⟩
  case round =>
    obtain ⟨⟨k, hk, rfl, hno⟩, hbw⟩ := hrel
    by_cases hlt : k < L.length
    · obtain ⟨b, off, rfl, hb, h0⟩ := (HR.out.below hbw (Nat.le_refl _)).int' hlt
      have hc := hp wr hbw L[k] (List.getElem_mem _)
      have HN := hid hno
      have HB := hid hbw
      have HC := hid hc
      clear hno hbw hc
      generalize hd : L[k] = d at *
      have HD := hid hd
      clear hd
      (try simp only [IR.cells] at h0 HC)
      obtain ⟨pd, hpd⟩ : ∃ b, b = p d := ⟨_, rfl⟩
      rw [← hpd] at HC
      have HP := hid hpd
      clear hpd
      cases pd
      all_goals
        go_wp2_with (refine (HC.out).mono ?_; rintro e w1 ⟨rfl, hb1⟩)
      · go_roundw
        case rel =>
          refine ⟨⟨k + 1, by omega, by go_num, fun j h hj => ?_⟩, HB.out.trans (hb1.mono HB.out.size)⟩
          by_cases e : j = k
          · subst e; rw [HD.out]; exact HP.out.symm
          · exact HN.out j h (by omega)
        case measure => simp [intOf]; omega
      · go_ret
        refine ⟨k, rfl, iff_of_true (by omega) (List.any_eq_true.2 ⟨L[k], List.getElem_mem _, by rw [HD.out]; exact HP.out.symm⟩), HB.out.trans (hb1.mono HB.out.size)⟩
    · go_wp2
      go_ret
      refine ⟨-1, rfl, iff_of_false (by omega) ?_, hbw⟩
      intro hm
      obtain ⟨d, hd, e⟩ := List.any_eq_true.1 hm
      obtain ⟨j, hj, rfl⟩ := List.getElem_of_mem hd
      rw [hno j hj (by omega)] at e
      cases e
theorem containsNt_any (g : Nat) (caps : Array Value) (p : Int → Bool) (L : List Int) (A : Option Addr) (c : Nat) (w : World) (hr : Row w w.heap.size A (icells' L)) (hl : L.length ≤ 9223372036854775807)
    (eg : ∀ args w, (callFunc g args).run Tryd.prog w = .ok (.enter g args) w) (hp : PredNt g caps p L w) :
    Calls Tryd.prog 25 #[.slice A L.length c, .func (.func g) #[] caps] w fun e w' => e = .returned (.bool (L.any p)) ∧ Below w.heap.size w w' := by
  have H := indexNt_any g caps p L A c w hr hl eg hp
  have HR := hid hr
  have HP := hid hp
  clear hr eg hp
  go_enter Tryd.func25, Tryd.ntmps25
  go_wp2_with (go_at_call 53; refine H.mono ?_; rintro e w' ⟨i, rfl, hi, hb⟩)
  go_ret
  refine ⟨ret_bool ?_, hb⟩
  first
    | (rw [Bool.eq_iff_iff, decide_eq_true_eq]; exact hi)
    | (rw [Bool.eq_iff_iff, decide_eq_true_eq, List.any_eq_true])

theorem far_any (n : Int) (w : World) : Calls Tryd.prog 49 #[.int .i64 n] w fun e w' => e = .returned (.bool (farB n)) ∧ w = w' := by
  obtain ⟨R, hR⟩ : ∃ R, R = farB n := ⟨_, rfl⟩
  rw [← hR]
  have HR := hid hR
  clear hR
  by_cases h1 : n < -1048576
  · go_enter Tryd.func49, Tryd.ntmps49
    go_wp2
    go_ret
    exact ⟨ret_bool (by rw [HR.out]; unfold farB; rw [decide_eq_true h1]; rfl), rfl⟩
  · by_cases h2 : 1048576 < n
    · go_enter Tryd.func49, Tryd.ntmps49
      go_wp2
      go_ret
      exact ⟨ret_bool (by rw [HR.out]; unfold farB; rw [decide_eq_true h2]; simp), rfl⟩
    · go_enter Tryd.func49, Tryd.ntmps49
      go_wp2
      go_ret
      exact ⟨ret_bool (by rw [HR.out]; unfold farB; rw [decide_eq_false (by omega), decide_eq_false (by omega)]; rfl), rfl⟩
theorem row1_any (n : Int) (w : World) : Calls Tryd.prog 70 #[.int .i64 n] w fun e w' => e = .returned (.bool (outB n)) ∧ w = w' := by
  obtain ⟨R, hR⟩ : ∃ R, R = outB n := ⟨_, rfl⟩
  rw [← hR]
  have HR := hid hR
  clear hR
  by_cases h1 : n < -1073741824
  · go_enter Tryd.func70, Tryd.ntmps70
    go_wp2
    go_ret
    exact ⟨ret_bool (by rw [HR.out]; unfold outB; rw [decide_eq_true h1]; rfl), rfl⟩
  · by_cases h2 : 1073741824 < n
    · go_enter Tryd.func70, Tryd.ntmps70
      go_wp2
      go_ret
      exact ⟨ret_bool (by rw [HR.out]; unfold outB; rw [decide_eq_true h2]; simp), rfl⟩
    · go_enter Tryd.func70, Tryd.ntmps70
      go_wp2
      go_ret
      exact ⟨ret_bool (by rw [HR.out]; unfold outB; rw [decide_eq_false (by omega), decide_eq_false (by omega)]; rfl), rfl⟩
theorem enters_row1 : ∀ args w, (callFunc 70 args).run Tryd.prog w = .ok (.enter 70 args) w := enters_of Tryd.func70 (by kernel_rfl) rfl

set_option maxHeartbeats 400000 in
set_option maxRecDepth 100000 in
theorem row_any (r : List Int) (A : Option Addr) (c : Nat) (w : World) (hr : Row w w.heap.size A (icells' r)) (hl : r.length ≤ 9223372036854775807) :
    Calls Tryd.prog 48 #[.slice A r.length c] w fun e w' => e = .returned (.bool (rowB r)) ∧ Below w.heap.size w w' := by
  have HC := hid (containsNt_any 70 #[] outB r A c w hr hl enters_row1 (fun w' hb x hx => (row1_any x w').mono fun e w2 ⟨h1, h2⟩ => ⟨h1, h2 ▸ Below.refl _ _⟩))
  clear hr
  obtain ⟨R, hR⟩ : ∃ R, R = rowB r := ⟨_, rfl⟩
  rw [← hR]
  have HR := hid hR
  clear hR
  obtain ⟨B, hB⟩ : ∃ B, B = r.any outB := ⟨_, rfl⟩
  rw [← hB] at HC
  have HB := hid hB
  clear hB
  by_cases h8 : r.length ≤ 8
  · have h8' : (r.length : Int) ≤ 8 := by omega
    go_enter Tryd.func48, Tryd.ntmps48
    go_wp2_with (go_at_call 25; refine HC.out.mono ?_; rintro e w' ⟨rfl, hb⟩)
    go_ret
    exact ⟨ret_bool (by rw [HR.out]; unfold rowB; rw [decide_eq_true h8, ← HB.out]; rfl), hb⟩
  · have h8' : (8 : Int) < (r.length : Int) := by omega
    go_enter Tryd.func48, Tryd.ntmps48
    go_wp2
    go_ret
    exact ⟨ret_bool (by rw [HR.out]; unfold rowB; rw [decide_eq_false h8]; rfl), Below.refl _ _⟩
end Go.Proofs.YtldlmkfigjicgaaDoor
/- slices.Compare at int, zset.Order. -/
namespace Go.Proofs.YtldlmkfigjicgaaDoor
set_option linter.unusedVariables false
set_option linter.unusedSimpArgs false
open Go.ChangeShapes Go.WideShapes Go.ChangeAt Go.RowKit

theorem isNaN_int (x : Int) (w : World) : Calls Tryd.prog 82 #[.int .i64 x] w fun e w' => e = .returned (.bool false) ∧ w = w' := by
  go_enter Tryd.func82, Tryd.ntmps82
  go_wp2
  go_ret
  simp
def cmpZ (x y : Int) : Int := if x < y then -1 else if y < x then 1 else 0
theorem compareZ_any (x y : Int) (w : World) :
    Calls Tryd.prog 57 #[.int .i64 x, .int .i64 y] w fun e w' => e = .returned (.int .i64 (cmpZ x y)) ∧ w = w' := by
  go_enter Tryd.func57, Tryd.ntmps57
  go_wp2_with (go_at_call 82; refine (isNaN_int _ _).mono ?_; rintro e w' ⟨rfl, rfl⟩)
  all_goals go_ret
  all_goals (refine ⟨?_, rfl⟩; first | (simp [cmpZ, *]; done) | (simp [cmpZ, *]; omega) | (simp [cmpZ]; omega))
theorem cmpL_cons (x y : Int) (l m : List Int) : cmpL (x :: l) (y :: m) = if cmpZ x y = 0 then cmpL l m else cmpZ x y := by
  unfold cmpZ
  rw [cmpL]
  by_cases h1 : x < y
  · rw [if_pos h1, if_pos h1, if_neg (by decide)]
  · rw [if_neg h1, if_neg h1]
    by_cases h2 : y < x
    · rw [if_pos h2, if_pos h2, if_neg (by decide)]
    · rw [if_neg h2, if_neg h2, if_pos rfl]

set_option maxHeartbeats 1000000 in
set_option maxRecDepth 100000 in
theorem compareL_any (l m : List Int) (A B : Option Addr) (c e : Nat) (w : World) (hr : Row w w.heap.size A (icells' l)) (hs : Row w w.heap.size B (icells' m)) (hl : l.length ≤ 9223372036854775807) (hm : m.length ≤ 9223372036854775807) :
    Calls Tryd.prog 71 #[.slice A l.length c, .slice B m.length e] w fun e w' => e = .returned (.int .i64 (cmpL l m)) ∧ w = w' := by
  have HR := hid hr
  have HS := hid hs
  clear hr hs
  obtain ⟨R, hR⟩ : ∃ R, R = cmpL l m := ⟨_, rfl⟩
  rw [← hR]
  have HRR := hid hR
  clear hR
  go_enter Tryd.func71, Tryd.ntmps71
  go_wp2
  go_loop [11] (fun i => ∃ k : Nat, k ≤ l.length ∧ k ≤ m.length ∧ i = .int .i64 k ∧ Hid (R = cmpL (l.drop k) (m.drop k))) (fun i => l.length - (intOf i).toNat)
  case atStart => exact ⟨0, by omega, by omega, rfl, HRR⟩
  case round =>
    clear HRR
    obtain ⟨k, hk, hk2, rfl, HK⟩ := hrel
    by_cases hlt : k < l.length
    · obtain ⟨b, off, rfl, hb, h0⟩ := HR.out.int' hlt
      have HD := hid (List.drop_eq_getElem_cons hlt)
      by_cases hlt2 : k < m.length
      · obtain ⟨b', off', rfl, hb', h0'⟩ := HS.out.int' hlt2
        have HD' := hid (List.drop_eq_getElem_cons hlt2)
        have HC : Hid (R = if cmpZ l[k] m[k] = 0 then cmpL (l.drop (k + 1)) (m.drop (k + 1)) else cmpZ l[k] m[k]) := hid (by rw [HK.out, HD.out, HD'.out, cmpL_cons])
        clear HK HD HD'
        generalize l[k] = x at *
        generalize m[k] = y at *
        have hc := compareZ_any x y w
        obtain ⟨cv, hcv⟩ : ∃ cv, cv = cmpZ x y := ⟨_, rfl⟩
        rw [← hcv] at hc HC
        have HCC := hid hc
        clear hc hcv
        by_cases hz : cv = 0
        · have t1 : (cv != 0) = false := by simp [hz]
          have HZ := hid hz
          clear hz
          go_wp2_with (go_at_call 57; refine HCC.out.mono ?_; rintro e w' ⟨rfl, rfl⟩)
          go_round
          case rel => exact ⟨k + 1, by omega, by omega, by go_num, hid (by rw [HC.out, if_pos HZ.out])⟩
          case measure => simp [intOf]; omega
        · have t1 : (cv != 0) = true := by simp [hz]
          have HZ := hid hz
          clear hz
          go_wp2_with (go_at_call 57; refine HCC.out.mono ?_; rintro e w' ⟨rfl, rfl⟩)
          go_ret
          exact ⟨ret_int (by rw [HC.out, if_neg HZ.out]), rfl⟩
      · have he : Hid (R = 1) := hid (by rw [HK.out, HD.out, show m.drop k = [] from List.drop_eq_nil_of_le (by omega)]; rfl)
        have hkm : (m.length : Int) ≤ (k : Int) := by omega
        clear HK HD
        go_wp2
        go_ret
        exact ⟨ret_int he.out.symm, rfl⟩
    · have hkl : k = l.length := by omega
      by_cases hlt2 : l.length < m.length
      · have he : Hid (R = -1) := hid (by rw [HK.out, show l.drop k = [] from List.drop_eq_nil_of_le (by omega), List.drop_eq_getElem_cons (show k < m.length by omega)]; rfl)
        clear HK hkl
        go_wp2
        go_ret
        exact ⟨ret_int he.out.symm, rfl⟩
      · have he : Hid (R = 0) := hid (by rw [HK.out, show l.drop k = [] from List.drop_eq_nil_of_le (by omega), show m.drop k = [] from List.drop_eq_nil_of_le (by omega)]; rfl)
        clear HK hkl
        go_wp2
        go_ret
        exact ⟨ret_int he.out.symm, rfl⟩

set_option maxRecDepth 100000 in
theorem orderL_any (l m : List Int) (A B : Option Addr) (c e : Nat) (w : World) (hr : Row w w.heap.size A (icells' l)) (hs : Row w w.heap.size B (icells' m)) (hl : l.length ≤ 9223372036854775807) (hm : m.length ≤ 9223372036854775807) :
    Calls Tryd.prog 50 #[.slice A l.length c, .slice B m.length e] w fun e w' => e = .returned (.int .i64 (cmpL l m)) ∧ w = w' := by
  have HC := hid (compareL_any l m A B c e w hr hs hl hm)
  clear hr hs
  go_enter Tryd.func50, Tryd.ntmps50
  go_wp2_with (go_at_call 71; refine HC.out.mono ?_; rintro e w' ⟨rfl, rfl⟩)
  go_ret
  exact ⟨rfl, rfl⟩
end Go.Proofs.YtldlmkfigjicgaaDoor
/- Words for items of a call's own making. -/
namespace Go.Proofs.YtldlmkfigjicgaaDoor
set_option linter.unusedVariables false
set_option linter.unusedSimpArgs false
open Go.ChangeShapes Go.WideShapes Go.ChangeAt Go.RowKit

theorem Row.grown_ne {w w' : World} {B : Nat} {A : Option Addr} {xs : List Value} {r : Option Nat} (h : Row w B A xs) (hB : B ≤ w.heap.size) (hg : w.grownBy w' r) (hr : ∀ b off q, A = some ⟨b, off, q⟩ → some b ≠ r) : Row w' B A xs := by
  rcases h with h | ⟨b, off, h1, h2, h3⟩
  · exact .inl h
  · refine .inr ⟨b, off, h1, h2, fun j u hu => ?_⟩
    rw [World.cell?_of_block (w := w) (hg.block b (by omega) (hr b off none h1))]
    exact h3 j u hu
/-- A row of ints in a block of its own: it lies there, and its room is known. -/
structure RowOwn (w : World) (A : Option Addr) (l : List Int) (k : Nat) : Prop where
  row : Row w w.heap.size A (icells' l)
  own : w.ownsRow 0 3 1 (.slice A l.length k) l.length (icells' l)
theorem RowOwn.of_own {w : World} {B n k : Nat} {A : Option Addr} {l : List Int} (h : w.ownsRow B 3 1 (.slice A n k) n (icells' l)) (hn : n = l.length) : RowOwn w A l k := by
  subst hn; exact ⟨Row.of_ownS h, own_baseS h (Nat.zero_le _)⟩
theorem RowOwn.step {w w' : World} {A : Option Addr} {l : List Int} {k : Nat} (h : RowOwn w A l k) (hb : Below w.heap.size w w') : RowOwn w' A l k := ⟨h.row.step hb, own_laterS h.own hb⟩
theorem RowOwn.grown_ne {w w' : World} {B : Nat} {A : Option Addr} {l : List Int} {k : Nat} {r : Option Nat} (h : RowOwn w A l k) (_ : B ≤ w.heap.size) (hg : w.grownBy w' r) (hr : ∀ b off q, A = some ⟨b, off, q⟩ → some b ≠ r) : RowOwn w' A l k := by
  refine ⟨(h.row.grown_ne (Nat.le_refl _) hg hr).more hg.size, ?_⟩
  obtain ⟨h1, h2⟩ := h.own
  refine ⟨h1, ?_⟩
  rcases h2 with h2 | ⟨b, cap, cur, e, hb, hgt, h3⟩
  · exact .inl h2
  · have hlt : b < w.heap.size := by
      rcases Nat.lt_or_ge b w.heap.size with h | h
      · exact h
      · rw [Array.getElem?_eq_none h] at hgt; cases hgt
    refine .inr ⟨b, cap, cur, e, hb, (hg.block b hlt ?_).trans hgt, h3⟩
    injection e with e
    exact hr b 0 none e
theorem RowOwn.more {w : World} {A : Option Addr} {l : List Int} {k B C : Nat} (h : RowOwn w A l k) (_ : B ≤ C) : RowOwn w A l k := h
/-- The rows of items that a call has made: in blocks of their own. -/
def RowsNew (w : World) (lo : Nat) (v : Value) (M : List IR) : Prop := ∀ x ∈ M, RowOwn w x.A x.row x.k ∧ NewAt lo x.A ∧ (∀ b off q, x.A = some ⟨b, off, q⟩ → some b ≠ v.ownBlock ∧ b < w.heap.size) ∧ x.row.length ≤ 1048576
theorem RowsNew.nil (w : World) (lo : Nat) (v : Value) : RowsNew w lo v [] := fun x hx => by simp at hx
theorem RowsNew.step {w w' : World} {lo : Nat} {v : Value} {M : List IR} (h : RowsNew w lo v M) (hb : Below w.heap.size w w') : RowsNew w' lo v M := fun x hx => by
  obtain ⟨h1, h2, h3, h4⟩ := h x hx
  exact ⟨h1.step hb, h2, fun b off q e => ⟨(h3 b off q e).1, Nat.lt_of_lt_of_le (h3 b off q e).2 hb.size⟩, h4⟩
theorem RowsNew.grown {w w' : World} {lo : Nat} {v v' : Value} {M : List IR} (h : RowsNew w lo v M) (hg : w.grownBy w' v.ownBlock) (hv : v'.ownBlock = v.ownBlock ∨ v'.ownBlock = some w.heap.size) : RowsNew w' lo v' M := fun x hx => by
  obtain ⟨h1, h2, h3, h4⟩ := h x hx
  refine ⟨h1.grown_ne (Nat.le_refl _) hg (fun b off q e => (h3 b off q e).1), h2, fun b off q e => ⟨?_, Nat.lt_of_lt_of_le (h3 b off q e).2 hg.size⟩, h4⟩
  rcases hv with hv | hv
  · rw [hv]; exact (h3 b off q e).1
  · rw [hv]; intro e2; injection e2 with e2; have := (h3 b off q e).2; omega
theorem RowsNew.snoc {w : World} {lo : Nat} {v : Value} {M : List IR} (h : RowsNew w lo v M) {x : IR} (h1 : RowOwn w x.A x.row x.k) (h2 : NewAt lo x.A) (h3 : ∀ b off q, x.A = some ⟨b, off, q⟩ → some b ≠ v.ownBlock ∧ b < w.heap.size) (h4 : x.row.length ≤ 1048576) : RowsNew w lo v (M ++ [x]) := fun y hy => by
  rcases List.mem_append.1 hy with e | e
  · exact h y e
  · rw [List.mem_singleton.1 e]; exact ⟨h1, h2, h3, h4⟩
theorem RowsNew.rows {w : World} {lo : Nat} {v : Value} {M : List IR} (h : RowsNew w lo v M) : RowsAt w w.heap.size M := fun x hx => ⟨(h x hx).1.row, Nat.le_trans (h x hx).2.2.2 (by decide)⟩
theorem elem_item : Elem Tryd.prog 22 51 2 32 := ⟨Tryd.underlying22, by
  obtain ⟨i, hi, hz, hs, hb⟩ := info_parts (P := Tryd.prog) (e := 51) (z := .agg #[.slice none 0 0, .int .i64 0]) (size := 2) (bytes := 32) (by kernel_rfl)
  exact ⟨i, _, hi, hz, hs, hb, rfl⟩, by decide⟩

theorem its_len (M : List IR) : (its M).length = M.length := List.length_map ..
end Go.Proofs.YtldlmkfigjicgaaDoor
/- zset.Check. -/
namespace Go.Proofs.YtldlmkfigjicgaaDoor
set_option linter.unusedVariables false
set_option linter.unusedSimpArgs false
open Go.ChangeShapes Go.WideShapes Go.ChangeAt Go.RowKit

set_option maxHeartbeats 2000000 in
set_option maxRecDepth 100000 in
theorem zcheck_any (M : List IR) (A : Option Addr) (c : Nat) (w : World) (hr : RowI w w.heap.size A M) (hl : M.length ≤ 9223372036854775807) :
    Calls Tryd.prog 20 #[.slice A M.length c] w fun e w' => e = .returned (.int .i64 (setI (its M))) ∧ Below w.heap.size w w' := by
  have HR := hid hr
  clear hr
  have HE := hid (show setI (its M) = if 400 < (its M).length then 2 else if (List.range (its M).length).any (zbadAt (its M)) = true then 5 else 0 from rfl)
  obtain ⟨E, hE⟩ : ∃ E, E = setI (its M) := ⟨_, rfl⟩
  rw [← hE] at HE ⊢
  rw [its_len] at HE
  clear hE
  by_cases h4 : 400 < M.length
  · have h4' : (400 : Int) < (M.length : Int) := by omega
    have HD : Hid (E = 2) := hid (by rw [HE.out, if_pos h4])
    go_enter Tryd.func20, Tryd.ntmps20
    go_wp2
    go_ret
    exact ⟨ret_int (by rw [HD.out]), Below.refl _ _⟩
  · have h4' : (M.length : Int) ≤ 400 := by omega
    have h4n : M.length ≤ 400 := by omega
    replace HE : Hid (E = if (List.range M.length).any (zbadAt (its M)) = true then 5 else 0) := hid (by rw [HE.out, if_neg h4])
    clear h4
    go_enter Tryd.func20, Tryd.ntmps20
    go_wp2_with fail
    go_loopw [10] (fun s10 wr => ∃ i : Nat, i ≤ M.length ∧ s10 = .int .i64 i ∧ Hid (∀ j, j < i → zbadAt (its M) j = false) ∧ Hid (Below w.heap.size w wr)) (fun s10 _ => M.length - (intOf s10).toNat)
    case atStart => exact ⟨0, by omega, rfl, hid (fun j h => by omega), hid (Below.refl _ _)⟩
    case round =>
      obtain ⟨i, hi, rfl, HNO, HB⟩ := hrel
      by_cases hlt : i < M.length
      · have HRR := hid (HR.out.step HB.out)
        obtain ⟨b, off, rfl, hb, h0, h1⟩ := HRR.out.1.it hlt
        have hmem := List.getElem_mem hlt
        have hrw := HRR.out.2 _ hmem
        have HBA : Hid (zbadAt (its M) i = ((badB M[i].it || decide (M[i].n = 0)) || (if h : 0 < i then decide (0 ≤ cmpL M[i - 1].row M[i].row) else false))) := hid (by
          cases i with
          | zero => rw [badAt_zero (by rw [its_len]; exact hlt)]; simp [its]
          | succ k => rw [badAt_succ (by rw [its_len]; exact hlt)]; simp [its])
        have hprev : ∀ h : 0 < i, ∃ (y : List Int) (yA : Option Addr) (yk : Nat), wr.cell? ⟨b, off + (i - 1) * 2, none⟩ = some (.slice yA y.length yk) ∧ Row wr wr.heap.size yA (icells' y) ∧ y.length ≤ 9223372036854775807 ∧ y = M[i - 1].row := fun h => by
          obtain ⟨b2, off2, hA2, hb2, g0, g1⟩ := HRR.out.1.it (show i - 1 < M.length by omega)
          injection hA2 with hA2
          injection hA2 with q1 q2
          subst q1 q2
          exact ⟨_, _, _, g0, (HRR.out.2 _ (List.getElem_mem _)).1, (HRR.out.2 _ (List.getElem_mem _)).2, rfl⟩
        obtain ⟨bad, hbad⟩ : ∃ bad, bad = zbadAt (its M) i := ⟨_, rfl⟩
        have HBD := hid hbad
        rw [← hbad] at HBA
        clear hbad hmem
        generalize M[i] = x at *
        obtain ⟨xr, xA, xk, xn⟩ := x
        simp only at h0 h1 hrw
        simp only [IR.it] at HBA
        obtain ⟨hrw1, hrw2⟩ := hrw
        obtain ⟨W, hW⟩ : ∃ W : World, W = wr.alloc (.cells #[.slice xA xr.length xk, .int .i64 xn] 51) := ⟨_, rfl⟩
        have hWB : Below wr.heap.size wr W := by rw [hW]; exact alloc_below (Below.refl _ _) _
        have HWX := hid (show Blk W wr.heap.size #[.slice xA xr.length xk, .int .i64 xn] 51 by rw [hW]; exact Blk.new _ _ _)
        have HROW := hid (fun w1 (hb : Below W.heap.size W w1) => row_any xr xA xk w1 (hrw1.step (Below.step' hWB hb)) hrw2)
        have HFAR := hid (fun w1 => far_any xn w1)
        have HXR := hid hrw1
        have hbr := hb
        have HBW := hid (Below.step' HB.out hWB)
        have HB2 := hid hWB
        have hW2 := hWB.size
        clear hWB
        obtain ⟨rb, hrb⟩ : ∃ q, q = rowB xr := ⟨_, rfl⟩
        obtain ⟨fb, hfb⟩ : ∃ q, q = farB xn := ⟨_, rfl⟩
        rw [← hrb] at HROW
        rw [← hfb] at HFAR
        replace HBA : Hid (bad = (((!rb || fb) || decide (xn = 0)) || (if h : 0 < i then decide (0 ≤ cmpL M[i - 1].row xr) else false))) := hid (by rw [HBA.out, badB, ← hrb, ← hfb])
        clear hrb hfb
        have hb0 : b < W.heap.size := by omega
        have HPRE := hid hprev
        clear hprev
        have HW := hid hW
        go_wp2_with fail
        -- STOP-a
        rw [← hW]
        clear hW h0 h1 hb hrw1
        go_cut [44] from 15 to 44 (fun s wx => s = .bool bad ∧ Hid (Below W.heap.size W wx))
        case first =>
          obtain ⟨cx, fx, sx, nx⟩ := HWX.out.all
          cases rb
          · go_wp2
            refine region_ext (by kernel_rfl) (by kernel_rfl) (fun hext => ?_)
            repeat (any_goals ((with_reducible refine wpQuiet_step (fun K hK => ?_)); go_simp; first | (with_reducible refine hK _ ?_; clear hK K) | ((with_reducible apply Exists.intro); (with_reducible refine ⟨fun _ => ?_, hK _ ?_⟩); ((first | (go_at_call 48; exact ext_call _ (Nat.le_refl _) (HROW.out _ (Ext.below _))) | (go_at_call 49; exact ext_call_same _ (HFAR.out _)) | (go_at_call 50; exact ext_call_same _ (HORD.out _ (Ext.below _))))); clear hK K) | ((with_reducible refine (if_neg ?_).mpr (hK _ ?_)); (decide); clear hK K) | (split <;> (with_reducible refine hK _ ?_; clear hK K))))
            all_goals ((with_reducible refine wpQuiet_nil ?_); clear hext; intro w1 hx1; have hb1 := ext_below hx1; clear hx1)
            go_wp2
            all_goals
              go_meet
              case rel => exact ⟨by rw [HBA.out]; rfl, hid hb1⟩
          · by_cases hn : xn = 0
            · have t1 : (xn == 0) = true := by simp [hn]
              have HN := hid hn
              clear hn
              go_wp2
              refine region_ext (by kernel_rfl) (by kernel_rfl) (fun hext => ?_)
              repeat (any_goals ((with_reducible refine wpQuiet_step (fun K hK => ?_)); go_simp; first | (with_reducible refine hK _ ?_; clear hK K) | ((with_reducible apply Exists.intro); (with_reducible refine ⟨fun _ => ?_, hK _ ?_⟩); ((first | (go_at_call 48; exact ext_call _ (Nat.le_refl _) (HROW.out _ (Ext.below _))) | (go_at_call 49; exact ext_call_same _ (HFAR.out _)) | (go_at_call 50; exact ext_call_same _ (HORD.out _ (Ext.below _))))); clear hK K) | ((with_reducible refine (if_neg ?_).mpr (hK _ ?_)); (decide); clear hK K) | (split <;> (with_reducible refine hK _ ?_; clear hK K))))
              all_goals ((with_reducible refine wpQuiet_nil ?_); clear hext; intro w1 hx1; have hb1 := ext_below hx1; clear hx1)
              go_wp2
              all_goals
                go_meet
                case rel => exact ⟨by rw [HBA.out, decide_eq_true HN.out]; simp, hid hb1⟩
            · have t1 : (xn == 0) = false := by simp [hn]
              have HN := hid hn
              clear hn
              cases fb
              · by_cases hi0 : 0 < i
                · obtain ⟨y, yA, yk, g0, g1, g2, g3⟩ := HPRE.out hi0
                  have g0' : W.cell? ⟨b, off + (i - 1) * 2, none⟩ = some (.slice yA y.length yk) := by rw [(bcell HB2.out).1 _ _ (by omega)]; exact g0
                  have HORD := hid (fun w1 (hb : Below W.heap.size W w1) => orderL_any y xr yA xA yk xk w1 (g1.step (Below.step' HB2.out hb)) (HXR.out.step (Below.step' HB2.out hb)) g2 hrw2)
                  obtain ⟨cv, hcv⟩ : ∃ q, q = cmpL y xr := ⟨_, rfl⟩
                  rw [← hcv] at HORD
                  have HBB : Hid (bad = decide (0 ≤ cv)) := hid (by rw [HBA.out, dif_pos hi0, ← g3, ← hcv, decide_eq_false HN.out]; simp)
                  have hi1 : (0 : Int) < (i : Int) := by omega
                  have hw1 : IntKind.i64.wrap ((i : Int) - 1) = (i : Int) - 1 := IntWalk.i64_in _ (by omega)
                  have hi2 : ((i : Int) - 1).toNat = i - 1 := by omega
                  have hi3 : (0 : Int) ≤ (i : Int) - 1 := by omega
                  have hi4 : (1 : Int) ≤ (i : Int) := by omega
                  have hi5 : (i : Int) - 1 < (M.length : Int) := by omega
                  clear hcv g0 g1 g3
                  by_cases hc : 0 ≤ cv
                  · have HC := hid hc
                    have hcd : decide (0 ≤ cv) = true := decide_eq_true hc
                    go_wp2
                    refine region_ext (by kernel_rfl) (by kernel_rfl) (fun hext => ?_)
                    repeat (any_goals ((with_reducible refine wpQuiet_step (fun K hK => ?_)); go_simp; first | (with_reducible refine hK _ ?_; clear hK K) | ((with_reducible apply Exists.intro); (with_reducible refine ⟨fun _ => ?_, hK _ ?_⟩); ((first | (go_at_call 48; exact ext_call _ (Nat.le_refl _) (HROW.out _ (Ext.below _))) | (go_at_call 49; exact ext_call_same _ (HFAR.out _)) | (go_at_call 50; exact ext_call_same _ (HORD.out _ (Ext.below _))))); clear hK K) | ((with_reducible refine (if_neg ?_).mpr (hK _ ?_)); (decide); clear hK K) | (split <;> (with_reducible refine hK _ ?_; clear hK K))))
                    all_goals ((with_reducible refine wpQuiet_nil ?_); clear hext; intro w1 hx1; have hb1 := ext_below hx1; clear hx1)
                    go_wp2
                    all_goals
                      go_meet
                      case rel => exact ⟨by rw [HBB.out, decide_eq_true HC.out], hid hb1⟩
                  · have HC := hid hc
                    have hcd : decide (0 ≤ cv) = false := decide_eq_false hc
                    go_wp2
                    refine region_ext (by kernel_rfl) (by kernel_rfl) (fun hext => ?_)
                    repeat (any_goals ((with_reducible refine wpQuiet_step (fun K hK => ?_)); go_simp; first | (with_reducible refine hK _ ?_; clear hK K) | ((with_reducible apply Exists.intro); (with_reducible refine ⟨fun _ => ?_, hK _ ?_⟩); ((first | (go_at_call 48; exact ext_call _ (Nat.le_refl _) (HROW.out _ (Ext.below _))) | (go_at_call 49; exact ext_call_same _ (HFAR.out _)) | (go_at_call 50; exact ext_call_same _ (HORD.out _ (Ext.below _))))); clear hK K) | ((with_reducible refine (if_neg ?_).mpr (hK _ ?_)); (decide); clear hK K) | (split <;> (with_reducible refine hK _ ?_; clear hK K))))
                    all_goals ((with_reducible refine wpQuiet_nil ?_); clear hext; intro w1 hx1; have hb1 := ext_below hx1; clear hx1)
                    go_wp2
                    all_goals
                      go_meet
                      case rel => exact ⟨by rw [HBB.out, decide_eq_false (by have := HC.out; omega)], hid hb1⟩
                · have HBB : Hid (bad = false) := hid (by rw [HBA.out, dif_neg hi0, decide_eq_false HN.out]; simp)
                  have hi1 : decide ((0 : Int) < (i : Int)) = false := decide_eq_false (by omega)
                  have hi2 : ¬ (0 : Int) < (i : Int) := by omega
                  go_wp2
                  refine region_ext (by kernel_rfl) (by kernel_rfl) (fun hext => ?_)
                  repeat (any_goals ((with_reducible refine wpQuiet_step (fun K hK => ?_)); go_simp; first | (with_reducible refine hK _ ?_; clear hK K) | ((with_reducible apply Exists.intro); (with_reducible refine ⟨fun _ => ?_, hK _ ?_⟩); ((first | (go_at_call 48; exact ext_call _ (Nat.le_refl _) (HROW.out _ (Ext.below _))) | (go_at_call 49; exact ext_call_same _ (HFAR.out _)) | (go_at_call 50; exact ext_call_same _ (HORD.out _ (Ext.below _))))); clear hK K) | ((with_reducible refine (if_neg ?_).mpr (hK _ ?_)); (decide); clear hK K) | (split <;> (with_reducible refine hK _ ?_; clear hK K))))
                  all_goals ((with_reducible refine wpQuiet_nil ?_); clear hext; intro w1 hx1; have hb1 := ext_below hx1; clear hx1)
                  go_wp2
                  all_goals
                    go_meet
                    case rel => exact ⟨by rw [HBB.out], hid hb1⟩
              · go_wp2
                refine region_ext (by kernel_rfl) (by kernel_rfl) (fun hext => ?_)
                repeat (any_goals ((with_reducible refine wpQuiet_step (fun K hK => ?_)); go_simp; first | (with_reducible refine hK _ ?_; clear hK K) | ((with_reducible apply Exists.intro); (with_reducible refine ⟨fun _ => ?_, hK _ ?_⟩); ((first | (go_at_call 48; exact ext_call _ (Nat.le_refl _) (HROW.out _ (Ext.below _))) | (go_at_call 49; exact ext_call_same _ (HFAR.out _)) | (go_at_call 50; exact ext_call_same _ (HORD.out _ (Ext.below _))))); clear hK K) | ((with_reducible refine (if_neg ?_).mpr (hK _ ?_)); (decide); clear hK K) | (split <;> (with_reducible refine hK _ ?_; clear hK K))))
                all_goals ((with_reducible refine wpQuiet_nil ?_); clear hext; intro w1 hx1; have hb1 := ext_below hx1; clear hx1)
                go_wp2
                all_goals
                  go_meet
                  case rel => exact ⟨by rw [HBA.out]; simp, hid hb1⟩
        case rest =>
          obtain ⟨rfl, HB4⟩ := hcut
          have HB5 := hid (Below.step' HBW.out HB4.out)
          cases bad
          · go_wp2_with fail
            go_roundw
            case rel =>
              refine ⟨i + 1, by omega, by go_num, hid (fun j hj => ?_), HB5⟩
              by_cases e : j = i
              · rw [e]; exact HBD.out.symm
              · exact HNO.out j (by omega)
            case measure => simp [intOf]; omega
          · have HD : Hid (E = 5) := hid (by rw [HE.out, if_pos (List.any_eq_true.2 ⟨i, List.mem_range.2 hlt, HBD.out.symm⟩)])
            go_wp2
            go_ret
            exact ⟨ret_int (by rw [HD.out]), HB5.out⟩
      · have HD : Hid (E = 0) := hid (by
          rw [HE.out, if_neg]
          intro h
          obtain ⟨j, hj, e⟩ := List.any_eq_true.1 h
          rw [HNO.out j (by have := List.mem_range.1 hj; omega)] at e
          cases e)
        go_wp2
        go_ret
        exact ⟨ret_int (by rw [HD.out]), HB.out⟩
end Go.Proofs.YtldlmkfigjicgaaDoor
/- slices.SortStableFunc at items: swapRange, rotate. -/
namespace Go.Proofs.YtldlmkfigjicgaaDoor
set_option linter.unusedVariables false
open Go.ChangeShapes Go.WideShapes Go.ChangeAt Go.RowKit Go.Shelf Go.Lib Go.Sort

/-- Items of which something holds. -/
abbrev QI (Q : IR → Prop) := {x : IR // Q x}
abbrev QI.cells {Q : IR → Prop} (x : QI Q) : List Value := x.1.cells
variable {Q : IR → Prop} [Inhabited (QI Q)]

end Go.Proofs.YtldlmkfigjicgaaDoor
/-
  DERIVED: THE SHELF's CONTRACTS AT THIS DUMP, IN PLAIN WORDS (tools/lay-plain.mjs out of 'YtldlmkfigjicgaaDoorShelf.lean', which tools/lay-shelf.mjs wrote): THE SAME DECLARATIONS UNDER THE SAME NAMES: 'import', 'namespace', 'open', 'def', 'theorem' AND NOTHING ELSE: no command of the shelf's: FOR A HAND-IN. Each laying: the table of numbers ('.._ren') and one theorem, a field a fact of the dump's own or the kernel's comparison; each contract: ONE APPLICATION.
-/
namespace Go.Proofs
open Go.Shelf
def Tryd.sortItem_ren : Go.Shelf.Ren := ⟨fun | 6 => 27 | 15 => 55 | 14 => 54 | 28 => 80 | 29 => 81 | 20 => 72 | 21 => 73 | 22 => 74 | 23 => 75 | 24 => 76 | 25 => 77 | 26 => 78 | 27 => 79 | 46 => 101 | 47 => 102 | 48 => 103 | 49 => 104 | 50 => 105 | 57 => 124 | n => n, fun | 22 => 22 | 24 => 51 | 25 => 56 | 3 => 3 | 39 => 96 | 0 => 0 | 53 => 116 | 55 => 118 | 4 => 4 | 46 => 109 | 45 => 108 | 50 => 113 | 5 => 5 | 9 => 9 | 66 => 135 | 70 => 139 | 76 => 156 | 77 => 157 | n => n, fun | n => n⟩
theorem Tryd.sortItem : Go.Proofs.SlLaysF0.n6 Tryd.prog Tryd.sortItem_ren := {
  mixed := by kernel_rfl
  f6 := ⟨Tryd.f27.name, by decide, Tryd.func27.trans (congrArg some (by kernel_rfl))⟩
  f14 := ⟨Tryd.f54.name, by decide, Tryd.func54.trans (congrArg some (by kernel_rfl))⟩
  f15 := Tryd.func55.trans (congrArg some (by kernel_rfl))
  f20 := ⟨Tryd.f72.name, by decide, Tryd.func72.trans (congrArg some (by kernel_rfl))⟩
  f21 := ⟨Tryd.f73.name, by decide, Tryd.func73.trans (congrArg some (by kernel_rfl))⟩
  f22 := ⟨Tryd.f74.name, by decide, Tryd.func74.trans (congrArg some (by kernel_rfl))⟩
  f23 := ⟨Tryd.f75.name, by decide, Tryd.func75.trans (congrArg some (by kernel_rfl))⟩
  f24 := ⟨Tryd.f76.name, by decide, Tryd.func76.trans (congrArg some (by kernel_rfl))⟩
  f25 := ⟨Tryd.f77.name, by decide, Tryd.func77.trans (congrArg some (by kernel_rfl))⟩
  f26 := ⟨Tryd.f78.name, by decide, Tryd.func78.trans (congrArg some (by kernel_rfl))⟩
  f27 := ⟨Tryd.f79.name, by decide, Tryd.func79.trans (congrArg some (by kernel_rfl))⟩
  f28 := Tryd.func80.trans (congrArg some (by kernel_rfl))
  f29 := Tryd.func81.trans (congrArg some (by kernel_rfl))
  f46 := ⟨Tryd.f101.name, by decide, Tryd.func101.trans (congrArg some (by kernel_rfl))⟩
  f47 := Tryd.func102.trans (congrArg some (by kernel_rfl))
  f48 := Tryd.func103.trans (congrArg some (by kernel_rfl))
  f49 := ⟨Tryd.f104.name, by decide, Tryd.func104.trans (congrArg some (by kernel_rfl))⟩
  f50 := ⟨Tryd.f105.name, by decide, Tryd.func105.trans (congrArg some (by kernel_rfl))⟩
  f57 := ⟨Tryd.f124.name, by decide, Tryd.func124.trans (congrArg some (by kernel_rfl))⟩
  t0 := Tryd.underlying0
  a0 := Tryd.isAgg0
  z0 := Tryd.sizeOf0
  v0 := Tryd.zeroValue0
  t3 := Tryd.underlying3
  a3 := Tryd.isAgg3
  z3 := Tryd.sizeOf3
  v3 := Tryd.zeroValue3
  t4 := Tryd.underlying4
  a4 := Tryd.isAgg4
  z4 := Tryd.sizeOf4
  v4 := Tryd.zeroValue4
  t5 := Tryd.underlying5
  a5 := Tryd.isAgg5
  z5 := Tryd.sizeOf5
  v5 := Tryd.zeroValue5
  t9 := Tryd.underlying9
  a9 := Tryd.isAgg9
  z9 := Tryd.sizeOf9
  v9 := Tryd.zeroValue9
  t22 := Tryd.underlying22
  a22 := Tryd.isAgg22
  z22 := Tryd.sizeOf22
  v22 := Tryd.zeroValue22
  t25 := Tryd.underlying56
  a25 := Tryd.isAgg56
  z25 := Tryd.sizeOf56
  v25 := Tryd.zeroValue56
  t39 := Tryd.underlying96
  a39 := Tryd.isAgg96
  z39 := Tryd.sizeOf96
  v39 := Tryd.zeroValue96
  t45 := Tryd.underlying108
  a45 := Tryd.isAgg108
  z45 := Tryd.sizeOf108
  v45 := Tryd.zeroValue108
  t46 := Tryd.underlying109
  a46 := Tryd.isAgg109
  z46 := Tryd.sizeOf109
  v46 := Tryd.zeroValue109
  t50 := Tryd.underlying113
  a50 := Tryd.isAgg113
  z50 := Tryd.sizeOf113
  v50 := Tryd.zeroValue113
  t53 := Tryd.underlying116
  a53 := Tryd.isAgg116
  z53 := Tryd.sizeOf116
  v53 := Tryd.zeroValue116
  t55 := Tryd.underlying118
  a55 := Tryd.isAgg118
  z55 := Tryd.sizeOf118
  v55 := Tryd.zeroValue118
  t66 := Tryd.underlying135
  a66 := Tryd.isAgg135
  z66 := Tryd.sizeOf135
  v66 := Tryd.zeroValue135
  t70 := Tryd.underlying139
  a70 := Tryd.isAgg139
  z70 := Tryd.sizeOf139
  v70 := Tryd.zeroValue139
  t76 := Tryd.underlying156
  a76 := Tryd.isAgg156
  z76 := Tryd.sizeOf156
  v76 := Tryd.zeroValue156
  t77 := Tryd.underlying157
  a77 := Tryd.isAgg157
  z77 := Tryd.sizeOf157
  v77 := Tryd.zeroValue157 }
end Go.Proofs
/- The order that zset.Sum sorts by. -/
namespace Go.Proofs.YtldlmkfigjicgaaDoor
set_option linter.unusedVariables false
set_option linter.unusedSimpArgs false
open Go.ChangeShapes Go.WideShapes Go.ChangeAt Go.RowKit Go.Shelf Go.Lib Go.Sort

/-- A world of the sort's: the one that it began with, but for the row's block, and what is new. -/
theorem sortWorldK_grown {α : Type} [Inhabited α] (enc : α → List Value) (k : Nat) (w : World) (g off n : Nat) (l : Array α) (os : Array Obj) : w.grownBy (sortWorldK enc k w g off n l os) (some g) := by
  refine ⟨rfl, rfl, rfl, ?_, ?_⟩
  · unfold sortWorldK grow Sort.putRowK putRow mapBlock Sort.ahead
    simp
  · intro j hj hne
    have hne' : g ≠ j := fun e => hne (by rw [e])
    unfold sortWorldK grow Sort.putRowK putRow mapBlock Sort.ahead
    simp [Array.getElem?_append, hj, Array.getElem_modify, hne']

end Go.Proofs.YtldlmkfigjicgaaDoor
/- The stable sort over a row of items that the call owns, nil too; slices.Clone at int. -/
namespace Go.Proofs.YtldlmkfigjicgaaDoor
set_option linter.unusedVariables false
set_option linter.unusedSimpArgs false
open Go.ChangeShapes Go.WideShapes Go.ChangeAt Go.RowKit Go.Shelf Go.Lib Go.Sort

theorem zflat_flatK {α : Type} [Inhabited α] (f : α → List Value) (k : Nat) (hf : ∀ x, (f x).length = k) (hk : 0 < k) (l : List α) : (l.flatMap f).toArray = flatK f k l.toArray := by
  apply Array.ext
  · rw [List.size_toArray, flat_len hf, size_flatK, List.size_toArray]
  · intro i h1 h2
    have hi : i < l.length * k := by rw [List.size_toArray, flat_len hf] at h1; exact h1
    have hq : i / k < l.length := Nat.div_lt_of_lt_mul (by rw [Nat.mul_comm]; exact hi)
    have e := get_flatK f k l.toArray i (by rw [List.size_toArray]; exact hi)
    rw [getElem!_pos _ i h2] at e
    rw [e]
    have g := flat_get hf l (i / k) hq (i % k) (Nat.mod_lt _ hk)
    rw [Nat.div_add_mod' i k] at g
    have hl : l.toArray[i / k]! = l[i / k] := by simp [hq]
    rw [hl]
    have h3 : i % k < (f l[i / k]).length := by rw [hf]; exact Nat.mod_lt _ hk
    rw [getElem!_pos (f l[i / k]) (i % k) h3]
    have h4 : i < (l.flatMap f).length := by rw [flat_len hf]; exact hi
    rw [List.getElem?_eq_getElem h4, List.getElem?_eq_getElem h3] at g
    injection g with g
theorem take_get {cur : Array Value} {n : Nat} {xs : List Value} (h : cur.toList.take n = xs) {j : Nat} (hj : j < xs.length) : cur[j]? = xs[j]? := by
  subst h
  rw [List.getElem?_take_of_lt (by simp at hj; omega)]
  simp
theorem own_holds {α : Type} [Inhabited α] (f : α → List Value) (hf : ∀ x, (f x).length = 2) {w : World} {g : Nat} {l : List α} {cur : Array Value} {T : TypeId} (hg : w.heap[g]? = some (.cells cur T (0, 0))) (hc : cur.toList.take (l.length * 2) = l.flatMap f) : HoldsK f 2 w g 0 l.toArray := by
  intro j hj
  rw [← zflat_flatK f 2 hf (by decide)] at hj ⊢
  have hj' : j < (l.flatMap f).length := by simpa using hj
  have e := take_get hc hj'
  have e2 : (l.flatMap f).toArray[j]! = (l.flatMap f)[j] := by
    rw [getElem!_pos _ j hj]; simp
  rw [e2]
  constructor
  · rw [Nat.zero_add, cell_of_row w g j cur T (0, 0) hg, e, List.getElem?_eq_getElem hj']; rfl
  · simp [World.frozen?, hg]
theorem own_sorted {α : Type} [Inhabited α] (f : α → List Value) (hf : ∀ x, (f x).length = 2) {w : World} {B cap g n : Nat} {l' : List α} {cur : Array Value} {T : TypeId} {os : Array Obj} (hb : B ≤ g) (hg : w.heap[g]? = some (.cells cur T (0, 0))) (hcap : l'.length ≤ cap) (hm : cap ≤ maxLen) (hs : cur.size = cap * 2) :
    (sortWorldK f 2 w g 0 n l'.toArray os).ownsRow B T 2 (.slice (some ⟨g, 0, none⟩) l'.length cap) l'.length (l'.flatMap f) := by
  have hlt : g < w.heap.size := by
    rcases Nat.lt_or_ge g w.heap.size with h | h
    · exact h
    · rw [Array.getElem?_eq_none h] at hg; cases hg
  have hnew : (sortWorldK f 2 w g 0 n l'.toArray os).heap[g]? = some (.cells (putCells id 0 (flatK f 2 l'.toArray) cur) T (0, 0)) := by
    unfold sortWorldK grow Sort.putRowK putRow mapBlock Sort.ahead
    simp only [Array.getElem?_append, Array.size_modify, hlt, if_true, Array.getElem?_modify, hg, Option.map_some]
    rfl
  refine ⟨by rw [flat_len hf], .inr ⟨g, cap, _, rfl, hb, hnew, hcap, hm, by simp [putCells, hs], ?_⟩⟩
  rw [← zflat_flatK f 2 hf (by decide)]
  apply List.ext_getElem?
  intro j
  by_cases hj : j < (l'.flatMap f).length
  · have hj2 : j < l'.length * 2 := by rw [flat_len hf] at hj; exact hj
    have hjc : j < cur.size := by rw [hs]; omega
    rw [List.getElem?_take_of_lt hj2]
    simp only [putCells, Array.toList_mapIdx, List.getElem?_mapIdx]
    have : cur.toList[j]? = some cur.toList[j] := List.getElem?_eq_getElem (by simpa using hjc)
    rw [this]
    simp only [Option.map_some, Nat.zero_le, Nat.zero_add, List.size_toArray, hj, and_self, if_true, Nat.sub_zero, id]
    rw [getElem!_pos _ j (by simpa using hj), List.getElem?_eq_getElem hj]
    simp
  · rw [List.getElem?_eq_none (Nat.le_of_not_lt hj), List.getElem?_eq_none]
    rw [List.length_take]
    rw [flat_len hf] at hj
    omega

theorem perm_all {α : Type} {d d' : Array α} [Inhabited α] (h : PermIn 0 d.size d d') : d'.toList.Perm d.toList := by
  have h2 := h.2.2
  have e1 : d'.extract 0 d.size = d' := by rw [← h.1]; simp
  have e2 : d.extract 0 d.size = d := by simp
  rwa [e1, e2] at h2
theorem cells_val {Q : IR → Prop} (l : List (QI Q)) : l.flatMap (QI.cells (Q := Q)) = rcells (l.map Subtype.val) := by
  rw [rcells, List.flatMap_map]

theorem elem_int : Elem Tryd.prog 23 3 1 8 := ⟨Tryd.underlying23, by
  obtain ⟨i, hi, hz, hs, hb⟩ := info_parts (P := Tryd.prog) (e := 3) (z := .int .i64 0) (size := 1) (bytes := 8) (by kernel_rfl)
  exact ⟨i, _, hi, hz, hs, hb, rfl⟩, by decide⟩
set_option maxHeartbeats 400000 in
set_option maxRecDepth 100000 in
theorem cloneI_any (l : List Int) (A : Option Addr) (c : Nat) (w : World) (hr : Row w w.heap.size A (icells' l)) (hl : l.length ≤ 1048576) :
    Calls Tryd.prog 29 #[.slice A l.length c] w fun e w' => ∃ A' c', e = .returned (.slice A' l.length c') ∧ RowOwn w' A' l c' ∧ NewAt w.heap.size A' ∧ (∀ b off q, A' = some ⟨b, off, q⟩ → b < w'.heap.size) ∧ Below w.heap.size w w' := by
  rcases A with _ | ad
  · have he : l = [] := by
      rcases hr with h | ⟨b, off, h, _⟩
      · simpa using h
      · cases h
    subst he
    have hnil := fun (w : World) => Lib.run_eql_slice_nil w (P := Tryd.prog) (t := 23) (e := 3) none 0 c 0 0 Tryd.underlying23
    go_enter Tryd.func29, Tryd.ntmps29
    go_wp2
    go_ret
    exact ⟨none, 0, rfl, ⟨Row.nil, World.ownsRow_nil _ _ _ _⟩, newAt_none _, (fun _ _ _ e => by cases e), Below.refl _ _⟩
  · have hnil := fun (w : World) => Lib.run_eql_slice_nil w (P := Tryd.prog) (t := 23) (e := 3) (some ad) l.length c 0 0 Tryd.underlying23
    have HR := hid hr
    clear hr
    go_enter Tryd.func29, Tryd.ntmps29
    go_wp2_with (at_builtin; refine wpList_append_row elem_int rfl _ _ rfl w.heap.size (.slice (some ⟨w.heap.size, 0, none⟩) 0 0) 0 [] rfl (World.ownsRow_made w #[] 0 (Nat.le_refl _) (by decide) rfl) (some ad) l.length c w.heap.size (icells' l) rfl ?_ (HR.out.below (Below.alloc (Below.refl _ _) (Nat.le_refl _) _) (Nat.le_refl _)) ?_ ?_ ?_ ?_ ?_; rotate_right; intro v1 w1 hown1 hg1 hat1; rotate_left; (simp); (intro u hu; obtain ⟨x, -, rfl⟩ := List.mem_map.1 hu; rfl); (simp only [maxLen]; omega); (omega); (simp))
    go_ret
    obtain ⟨A1, c1, rfl⟩ := own_formS hown1
    refine ⟨A1, c1, by simp, ?_, own_newS hown1 (Nat.le_refl _), own_inS hown1, ((Below.refl _ _).alloc (Nat.le_refl _) _).grown hg1 (by simp) (fun k hk => ?_)⟩
    · exact RowOwn.of_own (by simpa using hown1) rfl
    · simp [Value.ownBlock] at hk
      omega
end Go.Proofs.YtldlmkfigjicgaaDoor
/- zset.Sum: each row with its weight in all, in order. -/
namespace Go.Proofs.YtldlmkfigjicgaaDoor
set_option linter.unusedVariables false
set_option linter.unusedSimpArgs false
open Go.ChangeShapes Go.WideShapes Go.ChangeAt Go.RowKit Go.Shelf Go.Lib Go.Sort

/-- A list of items, and where it lies. -/
structure LR where
  L : List IR
  A : Option Addr
  k : Nat
abbrev LR.cells (x : LR) : List Value := [.slice x.A x.L.length x.k]
theorem LR.len (x : LR) : x.cells.length = 1 := rfl
end Go.Proofs.YtldlmkfigjicgaaDoor
