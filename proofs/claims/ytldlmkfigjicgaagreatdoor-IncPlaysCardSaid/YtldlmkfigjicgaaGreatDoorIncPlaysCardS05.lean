/- ZsD, RkA, LinP, PlP -/
import Derived.Test.YtldlmkfigjicgaaGreatDoorIncPlaysCardS04
/- slices.IndexFunc, ContainsFunc at Item; zset.Done. -/
namespace Go.Proofs.YtldlmkfigjicgaaGreatDoor
set_option linter.unusedVariables false
set_option linter.unusedSimpArgs false
open Go.ChangeShapes Go.WideShapes Go.ChangeAt Go.RowKit
/-- What is asked of a function value: handed an element of the list, in whatever later world, it answers p, and leaves what was there. -/
def PredIt (g : Nat) (caps : Array Value) (p : IR → Bool) (L : List IR) (w : World) : Prop :=
  ∀ w', Below w.heap.size w w' → ∀ x ∈ L, Calls Tryz.prog g (#[.agg x.cells.toArray] ++ caps) w' fun e w'' => e = .returned (.bool (p x)) ∧ Below w'.heap.size w' w''
set_option maxHeartbeats 400000 in
set_option maxRecDepth 100000 in
theorem indexIt_any (g : Nat) (caps : Array Value) (p : IR → Bool) (L : List IR) (A : Option Addr) (c : Nat) (w : World) (hr : Row w w.heap.size A (rcells L)) (hl : L.length ≤ 9223372036854775807)
    (eg : ∀ args w, (callFunc g args).run Tryz.prog w = .ok (.enter g args) w) (hp : PredIt g caps p L w) :
    Calls Tryz.prog 67 #[.slice A L.length c, .func (.func g) #[] caps] w (FoundAt (L.any p = true) w) := by
  have HR := hid hr
  clear hr
  go_enter Tryz.func67, Tryz.ntmps67
  go_wp2
  go_loopw [8] (fun i wr => (∃ k : Nat, k ≤ L.length ∧ i = .int .i64 k ∧ ∀ j (h : j < L.length), j < k → p L[j] = false) ∧ Below w.heap.size w wr) (fun i _ => L.length - (intOf i).toNat)
  case atStart => exact ⟨⟨0, by omega, rfl, fun j _ h => absurd h (by omega)⟩, Below.refl _ _⟩
  case round =>
    obtain ⟨⟨k, hk, rfl, hno⟩, hbw⟩ := hrel
    by_cases hlt : k < L.length
    · obtain ⟨b, off, rfl, hb, h0, h1⟩ := (HR.out.below hbw (Nat.le_refl _)).it hlt
      have hc := hp wr hbw L[k] (List.getElem_mem _)
      have HN := hid hno
      have HB := hid hbw
      have HC := hid hc
      clear hno hbw hc
      generalize hd : L[k] = d at *
      obtain ⟨xr, xA, xk, xn⟩ := d
      have HD := hid hd
      clear hd
      (try simp only [IR.cells] at h0 h1 HC)
      obtain ⟨pd, hpd⟩ : ∃ b, b = p ⟨xr, xA, xk, xn⟩ := ⟨_, rfl⟩
      rw [← hpd] at HC
      have HP := hid hpd
      clear hpd
      cases pd
      all_goals
        go_wp2_with (refine (HC.out).mono ?_; rintro e w1 ⟨rfl, hb1⟩)
      · go_roundw
        case rel =>
          refine ⟨⟨k + 1, by omega, by go_num, fun j h hj => ?_⟩, HB.out.trans (hb1.mono HB.out.size)⟩
          by_cases e : j = k
          · subst e; rw [HD.out]; exact HP.out.symm
          · exact HN.out j h (by omega)
        case measure => simp [intOf]; omega
      · go_ret
        refine ⟨k, rfl, iff_of_true (by omega) (List.any_eq_true.2 ⟨L[k], List.getElem_mem _, by rw [HD.out]; exact HP.out.symm⟩), HB.out.trans (hb1.mono HB.out.size)⟩
    · go_wp2
      go_ret
      refine ⟨-1, rfl, iff_of_false (by omega) ?_, hbw⟩
      intro hm
      obtain ⟨d, hd, e⟩ := List.any_eq_true.1 hm
      obtain ⟨j, hj, rfl⟩ := List.getElem_of_mem hd
      rw [hno j hj (by omega)] at e
      cases e
theorem containsIt_any (g : Nat) (caps : Array Value) (p : IR → Bool) (L : List IR) (A : Option Addr) (c : Nat) (w : World) (hr : Row w w.heap.size A (rcells L)) (hl : L.length ≤ 9223372036854775807)
    (eg : ∀ args w, (callFunc g args).run Tryz.prog w = .ok (.enter g args) w) (hp : PredIt g caps p L w) :
    Calls Tryz.prog 31 #[.slice A L.length c, .func (.func g) #[] caps] w fun e w' => e = .returned (.bool (L.any p)) ∧ Below w.heap.size w w' := by
  have H := indexIt_any g caps p L A c w hr hl eg hp
  have HR := hid hr
  have HP := hid hp
  clear hr eg hp
  go_enter Tryz.func31, Tryz.ntmps31
  go_wp2_with (go_at_call 67; refine H.mono ?_; rintro e w' ⟨i, rfl, hi, hb⟩)
  go_ret
  refine ⟨ret_bool ?_, hb⟩
  first
    | (rw [Bool.eq_iff_iff, decide_eq_true_eq]; exact hi)
    | (rw [Bool.eq_iff_iff, decide_eq_true_eq, List.any_eq_true])

set_option maxHeartbeats 400000 in
set_option maxRecDepth 100000 in
theorem done1_any (x : IR) (w : World) (hr : Row w w.heap.size x.A (icells' x.row)) (hl : x.row.length ≤ 9223372036854775807) :
    Calls Tryz.prog 70 #[.agg x.cells.toArray] w fun e w' => e = .returned (.bool (badB x.it)) ∧ Below w.heap.size w w' := by
  obtain ⟨xr, xA, xk, xn⟩ := x
  simp only [IR.cells, IR.it] at hr hl ⊢
  have HC := hid (fun w1 (hb : Below w.heap.size w w1) => row_any xr xA xk w1 (hr.step hb) hl)
  have HF := hid (fun w1 => far_any xn w1)
  clear hr
  have HX := hid (show badB (xr, xn) = (!rowB xr || farB xn) from rfl)
  obtain ⟨R, hR⟩ : ∃ R, R = badB (xr, xn) := ⟨_, rfl⟩
  rw [← hR] at HX ⊢
  clear hR
  obtain ⟨rb, hrb⟩ : ∃ b, b = rowB xr := ⟨_, rfl⟩
  rw [← hrb] at HC HX
  clear hrb
  obtain ⟨fb, hfb⟩ : ∃ b, b = farB xn := ⟨_, rfl⟩
  rw [← hfb] at HF HX
  clear hfb
  cases rb
  all_goals
    go_enter Tryz.func70, Tryz.ntmps70
    go_wp2_with fail
    refine (HC.out _ (by (repeat' (first | (with_reducible exact Below.refl _ _) | (with_reducible assumption) | (with_reducible refine below_drewN ?_ _) | (with_reducible refine Below.drew ?_) | (with_reducible refine Below.alloc ?_ ?_ _) | (with_reducible refine Below.setCell ?_ ?_ _) | (refine Below.trans ?_ (Below.mono (by assumption) ?_)) | go_size)))).mono ?_
    rintro e w1 ⟨rfl, hb1⟩
    have hB1 : Below w.heap.size w w1 := (by refine Below.step' ?_ hb1; (repeat' (first | (with_reducible exact Below.refl _ _) | (with_reducible assumption) | (with_reducible refine below_drewN ?_ _) | (with_reducible refine Below.drew ?_) | (with_reducible refine Below.alloc ?_ ?_ _) | (with_reducible refine Below.setCell ?_ ?_ _) | (refine Below.trans ?_ (Below.mono (by assumption) ?_)) | go_size)))
    have HX1 := hid (Blk.step (Blk.new w #[.slice xA xr.length xk, .int .i64 xn] 67) hb1)
    clear hb1
    obtain ⟨cx, fx, sx, nx⟩ := HX1.out.all
    go_wp2_with (go_at_call 34; refine (HF.out _).mono ?_; rintro e w' ⟨rfl, rfl⟩)
    go_ret
    exact ⟨ret_bool (by rw [HX.out]; rfl), hB1⟩
theorem enters_done1 : ∀ args w, (callFunc 70 args).run Tryz.prog w = .ok (.enter 70 args) w := enters_of Tryz.func70 (by kernel_rfl) rfl

theorem any_its (M : List IR) : M.any (fun x => badB x.it) = (its M).any badB := by rw [its, List.any_map]; rfl

def DonePost (D : Int) (v : Value) (w : World) (e : Ending) (w' : World) : Prop := e = .returned (.tuple #[if D = 0 then v else .slice none 0 0, .int .i64 D]) ∧ Below w.heap.size w w'
set_option maxHeartbeats 400000 in
set_option maxRecDepth 100000 in
theorem done_any (M : List IR) (A : Option Addr) (k : Nat) (w : World) (hr : Row w w.heap.size A (rcells M)) (hrow : RowsAt w w.heap.size M) (hl : M.length ≤ 9223372036854775807) :
    Calls Tryz.prog 35 #[.slice A M.length k] w (DonePost (doneE (its M)) (.slice A M.length k) w) := by
  have HC := hid (containsIt_any 70 #[] (fun x => badB x.it) M A k w hr hl enters_done1 (fun w' hb x hx => done1_any x w' ((hrow.step hb) x hx).1 (hrow x hx).2))
  clear hr hrow
  have HE := hid (show doneE (its M) = if (its M).any badB = true then 5 else if 400 < (its M).length then 2 else 0 from rfl)
  rw [any_its] at HC
  rw [its_len] at HE
  obtain ⟨D, hD⟩ : ∃ D, D = doneE (its M) := ⟨_, rfl⟩
  rw [← hD] at HE ⊢
  clear hD
  obtain ⟨B, hB⟩ : ∃ B, B = (its M).any badB := ⟨_, rfl⟩
  rw [← hB] at HC HE
  clear hB
  cases B
  · by_cases h4 : 400 < M.length
    · have h4' : (400 : Int) < (M.length : Int) := by omega
      have HD : Hid (D = 2) := hid (by rw [HE.out, if_neg (by simp), if_pos h4])
      go_enter Tryz.func35, Tryz.ntmps35
      go_wp2_with (go_at_call 31; refine HC.out.mono ?_; rintro e w' ⟨rfl, hb⟩)
      go_ret2
      exact ⟨by rw [HD.out, if_neg (by decide)]; rfl, hb⟩
    · have h4' : (M.length : Int) ≤ 400 := by omega
      have HD : Hid (D = 0) := hid (by rw [HE.out, if_neg (by simp), if_neg h4])
      go_enter Tryz.func35, Tryz.ntmps35
      go_wp2_with (go_at_call 31; refine HC.out.mono ?_; rintro e w' ⟨rfl, hb⟩)
      go_ret2
      exact ⟨by rw [HD.out, if_pos rfl]; rfl, hb⟩
  · have HD : Hid (D = 5) := hid (by rw [HE.out, if_pos rfl])
    go_enter Tryz.func35, Tryz.ntmps35
    go_wp2_with (go_at_call 31; refine HC.out.mono ?_; rintro e w' ⟨rfl, hb⟩)
    go_ret2
    exact ⟨by rw [HD.out, if_neg (by decide)]; rfl, hb⟩
end Go.Proofs.YtldlmkfigjicgaaGreatDoor
/- rank's closures, rank.width, the order of rows. -/
namespace Go.Proofs.YtldlmkfigjicgaaGreatDoor
set_option linter.unusedVariables false
set_option linter.unusedSimpArgs false
open Go.ChangeShapes Go.WideShapes Go.ChangeAt Go.RowKit Go.Shelf Go.Lib Go.Sort

/-- A variable that a closure has caught. -/
def Caught (w : World) (a : Addr) (v : Value) : Prop := w.cell? a = some v ∧ a.block < w.heap.size
theorem Caught.step {w w' : World} {b off : Nat} {v : Value} (h : Caught w ⟨b, off, none⟩ v) (hb : Below w.heap.size w w') : Caught w' ⟨b, off, none⟩ v := ⟨((bcell hb).1 b off h.2).trans h.1, Nat.lt_of_lt_of_le h.2 hb.size⟩

end Go.Proofs.YtldlmkfigjicgaaGreatDoor
/- Sets with weights: what is linear in them. No program in sight. -/
namespace Go.Proofs.YtldlmkfigjicgaaGreatDoor
set_option linter.unusedVariables false
set_option linter.unusedSimpArgs false

abbrev M64 : Int := 18446744073709551616
theorem wrp_dvd {a b : Int} : wrp a = wrp b ↔ M64 ∣ a - b := by
  simp only [wrp, IntKind.wrap_i64, M64]
  omega
/-- A number of each row, times its weight, in all. -/
def totF (f : List Int → Int) : List It → Int
  | [] => 0
  | x :: l => f x.1 * x.2 + totF f l
theorem totF_app (f : List Int → Int) : ∀ a b, totF f (a ++ b) = totF f a + totF f b
  | [], b => by simp [totF]
  | x :: a, b => by rw [List.cons_append, totF, totF, totF_app f a b]; omega
theorem totF_neg (f : List Int → Int) : ∀ a : List It, totF f (a.map (fun x => (x.1, -x.2))) = - totF f a
  | [] => rfl
  | x :: a => by
    rw [List.map_cons, totF, totF, totF_neg f a]
    simp only [Int.mul_neg]
    omega
theorem tot_neg' (r : List Int) : ∀ a : List It, tot r (a.map (fun x => (x.1, -x.2))) = - tot r a
  | [] => rfl
  | x :: a => by
    rw [List.map_cons, tot, tot, tot_neg' r a]
    split <;> omega
theorem totF_split (f : List Int → Int) (r : List Int) : ∀ l : List It, totF f l = f r * tot r l + totF f (l.filter (fun y => decide (y.1 ≠ r)))
  | [] => by simp [totF, tot]
  | x :: l => by
    rw [totF, tot, totF_split f r l]
    by_cases h : x.1 = r
    · rw [if_pos h, List.filter_cons_of_neg (by simp [h]), h, Int.mul_add]; omega
    · rw [if_neg h, List.filter_cons_of_pos (by simp [h]), totF, Int.mul_add]; omega
theorem totF_zero (f : List Int → Int) : ∀ n (l : List It), l.length ≤ n → (∀ r, M64 ∣ tot r l) → M64 ∣ totF f l
  | _, [], _, _ => ⟨0, rfl⟩
  | 0, x :: l, h, _ => by simp at h
  | n + 1, x :: l, h, ht => by
    rw [totF_split f x.1]
    refine Int.dvd_add (Int.dvd_mul_of_dvd_right (ht x.1)) (totF_zero f n _ ?_ fun r => ?_)
    · rw [List.filter_cons_of_neg (by simp)]
      have := List.length_filter_le (fun y : It => decide (y.1 ≠ x.1)) l
      simp only [List.length_cons] at h
      omega
    · by_cases e : r = x.1
      · have : tot r ((x :: l).filter (fun y => decide (y.1 ≠ x.1))) = 0 := tot_none fun y hy e2 => by
          have := (List.mem_filter.1 hy).2
          simp only [decide_eq_true_eq] at this
          exact this (e2.trans e)
        rw [this]; exact ⟨0, rfl⟩
      · rw [tot_filter e]; exact ht r
/-- What has the same weights has the same of all that is linear. -/
theorem totF_wt {a b : List It} (h : ∀ r, wt a r = wt b r) (f : List Int → Int) : M64 ∣ totF f a - totF f b := by
  have h2 := totF_zero f _ (a ++ b.map (fun x => (x.1, -x.2))) (Nat.le_refl _) fun r => by
    rw [tot_app, tot_neg']
    have := wrp_dvd.1 (h r)
    rwa [← Int.sub_eq_add_neg]
  rwa [totF_app, totF_neg, ← Int.sub_eq_add_neg] at h2
theorem wt_app {a b c d : List It} (h1 : ∀ r, wt a r = wt c r) (h2 : ∀ r, wt b r = wt d r) : ∀ r, wt (a ++ b) r = wt (c ++ d) r := fun r => by
  unfold wt at *
  rw [tot_app, tot_app, wrp_dvd]
  have e1 := wrp_dvd.1 (h1 r)
  have e2 := wrp_dvd.1 (h2 r)
  have : tot r a + tot r b - (tot r c + tot r d) = (tot r a - tot r c) + (tot r b - tot r d) := by omega
  rw [this]
  exact Int.dvd_add e1 e2
theorem wt_neg {a b : List It} (h : ∀ r, wt a r = wt b r) : ∀ r, wt (a.map (fun x => (x.1, -x.2))) r = wt (b.map (fun x => (x.1, -x.2))) r := fun r => by
  unfold wt at *
  rw [tot_neg', tot_neg', wrp_dvd]
  have e1 := wrp_dvd.1 (h r)
  have : -tot r a - -tot r b = -(tot r a - tot r b) := by omega
  rw [this]
  exact Int.dvd_neg.2 e1
theorem wt_sumL (l : List It) : ∀ r, wt (sumL l) r = wt l r := (sumL_law l).2
theorem tot_where (p : List Int → Bool) (q : List Int) : ∀ A : List It, tot q (A.filter (fun x => p x.1)) = totF (fun r => if p r = true ∧ r = q then 1 else 0) A
  | [] => rfl
  | x :: A => by
    rw [totF, ← tot_where p q A]
    by_cases h : p x.1 = true
    · rw [List.filter_cons_of_pos (by simpa using h), tot]
      by_cases e : x.1 = q
      · rw [if_pos e, if_pos ⟨h, e⟩]; omega
      · rw [if_neg e, if_neg (fun h => e h.2)]; omega
    · rw [List.filter_cons_of_neg (by simpa using h), if_neg (fun q => h q.1)]; omega
theorem tot_pick (g : List Int → List Int) (q : List Int) : ∀ A : List It, tot q (A.map (fun x => (g x.1, x.2))) = totF (fun r => if g r = q then 1 else 0) A
  | [] => rfl
  | x :: A => by
    rw [totF, ← tot_pick g q A, List.map_cons, tot]
    split <;> omega
/-- Two sums are one where their weights are. -/
theorem sumL_same {a b : List It} (h : ∀ r, wt a r = wt b r) : sumL a = sumL b := sumL_wt h
end Go.Proofs.YtldlmkfigjicgaaGreatDoor
/- Queries over sets with weights: what query.Check and plain.All tell. No program in sight. -/
namespace Go.Proofs.YtldlmkfigjicgaaGreatDoor
set_option linter.unusedVariables false
set_option linter.unusedSimpArgs false

/-- A step of a query. -/
structure St where
  kind : Int
  a : Int
  b : Int
  col : Int
  op : Int
  val : Int
  list : List Int
instance : Inhabited St := ⟨⟨0, 0, 0, 0, 0, 0, []⟩⟩
def wiB (n lo hi : Int) : Bool := decide (lo ≤ n) && decide (n ≤ hi)
theorem wiB_iff {n lo hi : Int} : wiB n lo hi = true ↔ lo ≤ n ∧ n ≤ hi := by unfold wiB; simp
def twoB (s : St) : Bool := s.kind == 4 || (s.kind == 5 || s.kind == 6)
def noneB (s : St) : Bool := s.col == 0 && (s.op == 0 && s.val == 0)
def ofW (s : St) (a b : Int) : Int :=
  if s.kind = 2 then (if (wiB s.col 0 (a - 1) && (wiB s.op 1 3 && wiB s.val (-1073741824) 1073741824)) = true then a else 0)
  else if s.kind = 3 then (if (noneB s && (decide (s.list.length ≤ 8) && !s.list.any (fun n => !wiB n 0 (a - 1)))) = true then (s.list.length : Int) else 0)
  else if s.kind = 4 then (if (wiB s.col 0 (a - 1) && (s.op == 0 && (wiB s.val 0 (b - 1) && decide (a + b ≤ 8)))) = true then a + b else 0)
  else if s.kind = 5 ∨ s.kind = 6 then (if (noneB s && a == b) = true then a else 0)
  else if s.kind = 7 then (if noneB s = true then a else 0)
  else if s.kind = 8 then (if (wiB s.col 0 (a - 1) && (s.op == 0 && s.val == 0)) = true then 2 else 0)
  else if s.kind = 9 then (if (wiB s.col 0 (a - 1) && (s.op == 0 && wiB s.val 0 (a - 1))) = true then 2 else 0)
  else 0
def tblB (s : St) : Bool := wiB s.a 0 1 && (s.b == 0 && (s.col == 0 && (s.op == 0 && (s.val == 0 && s.list.length == 0))))
def badStep (s : St) (last : Int) : Bool := !wiB s.a 0 last || (twoB s && !wiB s.b 0 last || (!twoB s && s.b != 0 || (decide (0 < s.list.length) != (s.kind == 3))))
def stW (s : St) (W : List Int) : Int :=
  if s.kind = 1 then (if tblB s = true then 4 else 0)
  else if badStep s ((W.length : Int) - 1) = true then 0
  else ofW s (W.getD s.a.toNat 0) (W.getD s.b.toNat 0)
/-- Widths of all steps. -/
def widsL : List St → List Int → Option (List Int)
  | [], W => some W
  | s :: q, W => if stW s W = 0 then none else widsL q (W ++ [stW s W])
def queryE (q : List St) : Int := if q.length = 0 then 1 else if 8 < q.length then 2 else if widsL q [] = none then 1 else 0
def queryW (q : List St) : List Int := if queryE q = 0 then (widsL q []).getD [] else []
theorem widsL_len : ∀ {q : List St} {W V : List Int}, widsL q W = some V → V.length = W.length + q.length ∧ V.take W.length = W
  | [], W, V, h => by
    rw [widsL] at h; injection h with h; subst h; simp
  | s :: q, W, V, h => by
    rw [widsL] at h
    by_cases e : stW s W = 0
    · rw [if_pos e] at h; cases h
    · rw [if_neg e] at h
      obtain ⟨h1, h2⟩ := widsL_len h
      rw [List.length_append, List.length_singleton] at h1 h2
      refine ⟨by rw [h1, List.length_cons]; omega, ?_⟩
      have := congrArg (List.take W.length) h2
      rw [List.take_take, Nat.min_eq_left (by omega), List.take_append_of_le_length (Nat.le_refl _), List.take_length] at this
      exact this
theorem queryE_zero {q : List St} : queryE q = 0 ↔ 0 < q.length ∧ q.length ≤ 8 ∧ ∃ W, widsL q [] = some W := by
  unfold queryE
  constructor
  · intro h
    by_cases h1 : q.length = 0
    · rw [if_pos h1] at h; omega
    · rw [if_neg h1] at h
      by_cases h2 : 8 < q.length
      · rw [if_pos h2] at h; omega
      · rw [if_neg h2] at h
        by_cases h3 : widsL q [] = none
        · rw [if_pos h3] at h; omega
        · exact ⟨by omega, by omega, Option.ne_none_iff_exists'.1 h3⟩
  · rintro ⟨h1, h2, W, h3⟩
    rw [if_neg (by omega), if_neg (by omega), if_neg (by rw [h3]; simp)]
/-- What a right step's numbers are. -/
def StOk (s : St) (W : List Int) : Prop :=
  (s.kind = 1 ∧ (s.a = 0 ∨ s.a = 1)) ∨
  (0 ≤ s.a ∧ s.a < W.length ∧ 0 ≤ s.b ∧ s.b < W.length ∧
    ((s.kind = 2 ∧ 0 ≤ s.col ∧ s.col < W.getD s.a.toNat 0) ∨
     (s.kind = 3 ∧ s.list.length ≤ 8 ∧ ∀ n ∈ s.list, 0 ≤ n ∧ n < W.getD s.a.toNat 0) ∨
     (s.kind = 4 ∧ 0 ≤ s.col ∧ s.col < W.getD s.a.toNat 0 ∧ 0 ≤ s.val ∧ s.val < W.getD s.b.toNat 0 ∧ W.getD s.a.toNat 0 + W.getD s.b.toNat 0 ≤ 8) ∨
     ((s.kind = 5 ∨ s.kind = 6) ∧ W.getD s.a.toNat 0 = W.getD s.b.toNat 0) ∨
     s.kind = 7 ∨
     (s.kind = 8 ∧ 0 ≤ s.col ∧ s.col < W.getD s.a.toNat 0) ∨
     (s.kind = 9 ∧ 0 ≤ s.col ∧ s.col < W.getD s.a.toNat 0 ∧ 0 ≤ s.val ∧ s.val < W.getD s.a.toNat 0)))
theorem stW_ok {s : St} {W : List Int} (h : stW s W ≠ 0) : StOk s W := by
  unfold stW at h
  unfold StOk
  by_cases h1 : s.kind = 1
  · rw [if_pos h1] at h
    by_cases h2 : tblB s = true
    · unfold tblB at h2
      simp only [Bool.and_eq_true, wiB_iff] at h2
      left; exact ⟨h1, by omega⟩
    · rw [if_neg h2] at h; exact absurd rfl h
  · rw [if_neg h1] at h
    by_cases h2 : badStep s ((W.length : Int) - 1) = true
    · rw [if_pos h2] at h; exact absurd rfl h
    · rw [if_neg h2] at h
      unfold badStep at h2
      simp only [Bool.or_eq_true, Bool.and_eq_true, Bool.not_eq_true', not_or, not_and, Bool.not_eq_false, Bool.not_eq_true, wiB_iff, bne_iff_ne, ne_eq, Decidable.not_not] at h2
      obtain ⟨q1, q2, q3, q4⟩ := h2
      right
      have hb : 0 ≤ s.b ∧ s.b < W.length := by
        cases e : twoB s
        · have := q3 e; omega
        · have := q2 e; omega
      refine ⟨by omega, by omega, hb.1, hb.2, ?_⟩
      unfold ofW noneB at h
      generalize W.getD s.a.toNat 0 = x at *
      generalize W.getD s.b.toNat 0 = y at *
      split at h
      · rename_i e
        left
        split at h
        · rename_i e2
          simp only [Bool.and_eq_true, wiB_iff] at e2
          exact ⟨e, by omega, by omega⟩
        · exact absurd rfl h
      · split at h
        · rename_i e
          right; left
          split at h
          · rename_i e2
            simp only [Bool.and_eq_true, decide_eq_true_eq, Bool.not_eq_true', List.any_eq_false, Bool.not_eq_false, wiB_iff] at e2
            exact ⟨e, e2.2.1, fun n hn => by have := e2.2.2 n hn; omega⟩
          · exact absurd rfl h
        · split at h
          · rename_i e
            right; right; left
            split at h
            · rename_i e2
              simp only [Bool.and_eq_true, decide_eq_true_eq, wiB_iff] at e2
              exact ⟨e, by omega, by omega, by omega, by omega, by omega⟩
            · exact absurd rfl h
          · split at h
            · rename_i e
              right; right; right; left
              split at h
              · rename_i e2
                simp only [Bool.and_eq_true, beq_iff_eq] at e2
                exact ⟨e, e2.2⟩
              · exact absurd rfl h
            · split at h
              · rename_i e
                exact .inr (.inr (.inr (.inr (.inl e))))
              · split at h
                · rename_i e
                  right; right; right; right; right; left
                  split at h
                  · rename_i e2
                    simp only [Bool.and_eq_true, wiB_iff] at e2
                    exact ⟨e, by omega, by omega⟩
                  · exact absurd rfl h
                · split at h
                  · rename_i e
                    right; right; right; right; right; right
                    split at h
                    · rename_i e2
                      simp only [Bool.and_eq_true, wiB_iff] at e2
                      exact ⟨e, by omega, by omega, by omega, by omega⟩
                    · exact absurd rfl h
                  · exact absurd rfl h

/-! what a step makes -/
def stHolds (op n v : Int) : Bool := if op = 1 then decide (n < v) else if op = 2 then decide (n = v) else decide (v < n)
def colD (r : List Int) (i : Int) : Int := r.getD i.toNat 0
def whereL (s : St) (A : List It) : List It := A.filter (fun x => stHolds s.op (colD x.1 s.col) s.val)
def pickR (s : St) (r : List Int) : List Int := s.list.map (fun i => colD r i)
def pickL (s : St) (A : List It) : List It := A.map (fun x => (pickR s x.1, x.2))
def linB (s : St) : Bool := s.kind == 2 || (s.kind == 3 || (s.kind == 5 || s.kind == 6))
def linL (s : St) (A B : List It) : List It :=
  if s.kind = 2 then whereL s A else if s.kind = 3 then pickL s A else if s.kind = 5 then A ++ B else if s.kind = 6 then A ++ negL B else []
def joinL (s : St) (A B : List It) : List It := A.flatMap (fun x => (B.filter (fun y => decide (colD y.1 s.val = colD x.1 s.col))).map (fun y => (x.1 ++ y.1, wrp (x.2 * y.2))))
def distL (A : List It) : List It := (A.filter (fun x => decide (0 < x.2))).map (fun x => (x.1, 1))
/-- A group: how many in all, and the sum. -/
def grpN (s : St) (A : List It) (k : Int) : Int := wrp (totF (fun r => if colD r s.col = k then 1 else 0) A)
def grpS (s : St) (A : List It) (k : Int) : Int := if s.kind = 9 then wrp (totF (fun r => if colD r s.col = k then colD r s.val else 0) A) else 0
def toldL (s : St) (k n m : Int) : List It := if n = 0 then [] else [([k, if s.kind = 9 then m else n], 1)]
/-- Each number once. -/
def dedupI : List Int → List Int
  | [] => []
  | x :: l => x :: (dedupI l).filter (fun y => decide (y ≠ x))
theorem dedupI_mem : ∀ (l : List Int) (x : Int), x ∈ dedupI l ↔ x ∈ l
  | [], x => by simp [dedupI]
  | y :: l, x => by
    rw [dedupI, List.mem_cons, List.mem_cons, List.mem_filter, dedupI_mem l x]
    by_cases e : x = y
    · simp [e]
    · simp [e]
theorem dedupI_nodup : ∀ l : List Int, (dedupI l).Nodup
  | [] => List.Pairwise.nil
  | y :: l => by
    rw [dedupI]
    refine List.nodup_cons.2 ⟨fun h => ?_, List.Pairwise.sublist List.filter_sublist (dedupI_nodup l)⟩
    have := (List.mem_filter.1 h).2
    simp at this
theorem dedupI_len : ∀ l : List Int, (dedupI l).length ≤ l.length
  | [] => Nat.le_refl _
  | y :: l => by
    rw [dedupI, List.length_cons, List.length_cons]
    have := List.length_filter_le (fun z => decide (z ≠ y)) (dedupI l)
    have := dedupI_len l
    omega
def keysG (s : St) (A : List It) : List Int := dedupI (A.map (fun x => colD x.1 s.col))
def groupL (s : St) (A : List It) : List It := (keysG s A).flatMap (fun k => toldL s k (grpN s A k) (grpS s A k))
def stL (s : St) (A B : List It) : List It :=
  if linB s = true then linL s A B else if s.kind = 4 then joinL s A B else if s.kind = 7 then distL A else if s.kind = 8 ∨ s.kind = 9 then groupL s A else []

/-- The list of a step, ahead of its sum. -/
def atL (ta tb : List It) (s : St) (out : List (List It)) : List It := if s.kind = 1 then (if s.a = 0 then ta else tb) else stL s (out.getD s.a.toNat []) (out.getD s.b.toNat [])
def setsG (ta tb : List It) : List St → List (List It) → Int × List (List It)
  | [], out => (0, out)
  | s :: q, out => if doneE (sumL (atL ta tb s out)) ≠ 0 then (doneE (sumL (atL ta tb s out)), []) else setsG ta tb q (out ++ [sumL (atL ta tb s out)])
def wideB (x : It) : Bool := decide (x.1.length ≠ 4)
def basesE (q : List St) (a b : List It) : Int := if queryE q ≠ 0 then queryE q else if setI a ≠ 0 then setI a else if setI b ≠ 0 then setI b else if (a ++ b).any wideB = true then 5 else 0
def allE (q : List St) (a b : List It) : Int := if basesE q a b ≠ 0 then basesE q a b else (setsG a b q []).1
def allX (q : List St) (a b : List It) : List (List It) := if allE q a b = 0 then (setsG a b q []).2 else []
def evalX (q : List St) (a b : List It) : List It := (allX q a b).getLastD []
theorem setsG_len (ta tb : List It) : ∀ (q : List St) (out : List (List It)), (setsG ta tb q out).1 = 0 → (setsG ta tb q out).2.length = out.length + q.length ∧ (setsG ta tb q out).2.take out.length = out
  | [], out, _ => by rw [setsG]; simp
  | s :: q, out, h => by
    rw [setsG] at h ⊢
    by_cases e : doneE (sumL (atL ta tb s out)) ≠ 0
    · rw [if_pos e] at h; exact absurd h e
    · rw [if_neg e] at h ⊢
      obtain ⟨h1, h2⟩ := setsG_len ta tb q _ h
      rw [List.length_append, List.length_singleton] at h1 h2
      refine ⟨by rw [h1, List.length_cons]; omega, ?_⟩
      have := congrArg (List.take out.length) h2
      rw [List.take_take, Nat.min_eq_left (by omega), List.take_append_of_le_length (Nat.le_refl _), List.take_length] at this
      exact this
theorem basesE_zero {q : List St} {a b : List It} : basesE q a b = 0 ↔ queryE q = 0 ∧ setI a = 0 ∧ setI b = 0 ∧ (∀ x ∈ a, x.1.length = 4) ∧ ∀ x ∈ b, x.1.length = 4 := by
  unfold basesE
  constructor
  · intro h
    by_cases h1 : queryE q = 0
    · rw [if_neg (by simp [h1])] at h
      by_cases h2 : setI a = 0
      · rw [if_neg (by simp [h2])] at h
        by_cases h3 : setI b = 0
        · rw [if_neg (by simp [h3])] at h
          by_cases h4 : (a ++ b).any wideB = true
          · rw [if_pos h4] at h; omega
          · simp only [List.any_eq_true, not_exists, not_and, List.mem_append] at h4
            have key : ∀ x, x ∈ a ∨ x ∈ b → x.1.length = 4 := fun x hx => by
              have := h4 x hx
              unfold wideB at this
              simpa using this
            exact ⟨h1, h2, h3, fun x hx => key x (.inl hx), fun x hx => key x (.inr hx)⟩
        · rw [if_pos h3] at h; exact absurd h h3
      · rw [if_pos h2] at h; exact absurd h h2
    · rw [if_pos h1] at h; exact absurd h h1
  · rintro ⟨h1, h2, h3, h4, h5⟩
    rw [if_neg (by simp [h1]), if_neg (by simp [h2]), if_neg (by simp [h3]), if_neg]
    simp only [List.any_eq_true, not_exists, not_and, List.mem_append]
    rintro x (hx | hx)
    · unfold wideB; simp [h4 x hx]
    · unfold wideB; simp [h5 x hx]
end Go.Proofs.YtldlmkfigjicgaaGreatDoor
