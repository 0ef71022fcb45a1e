/- ZsD, RkA, RkB, RkC, RkD -/
import Derived.Test.YtldlmkfigjicgaaDoorRankSaysCardS02
import Derived.Shelf.SlSortCmp.NoneTotal
import Derived.Handy
import Derived.Deep.RegionHeld3
/- slices.IndexFunc, ContainsFunc at Item; zset.Done. -/
namespace Go.Proofs.YtldlmkfigjicgaaDoor
set_option linter.unusedVariables false
set_option linter.unusedSimpArgs false
open Go.ChangeShapes Go.WideShapes Go.ChangeAt Go.RowKit
/-- What is asked of a function value: handed an element of the list, in whatever later world, it answers p, and leaves what was there. -/
def PredIt (g : Nat) (caps : Array Value) (p : IR → Bool) (L : List IR) (w : World) : Prop :=
  ∀ w', Below w.heap.size w w' → ∀ x ∈ L, Calls Tryd.prog g (#[.agg x.cells.toArray] ++ caps) w' fun e w'' => e = .returned (.bool (p x)) ∧ Below w'.heap.size w' w''
set_option maxHeartbeats 400000 in
set_option maxRecDepth 100000 in
theorem indexIt_any (g : Nat) (caps : Array Value) (p : IR → Bool) (L : List IR) (A : Option Addr) (c : Nat) (w : World) (hr : Row w w.heap.size A (rcells L)) (hl : L.length ≤ 9223372036854775807)
    (eg : ∀ args w, (callFunc g args).run Tryd.prog w = .ok (.enter g args) w) (hp : PredIt g caps p L w) :
    Calls Tryd.prog 52 #[.slice A L.length c, .func (.func g) #[] caps] w (FoundAt (L.any p = true) w) := by
  have HR := hid hr
  clear hr
  go_enter Tryd.func52, Tryd.ntmps52
  go_wp2
  go_loopw [8] (fun i wr => (∃ k : Nat, k ≤ L.length ∧ i = .int .i64 k ∧ ∀ j (h : j < L.length), j < k → p L[j] = false) ∧ Below w.heap.size w wr) (fun i _ => L.length - (intOf i).toNat)
  case atStart => exact ⟨⟨0, by omega, rfl, fun j _ h => absurd h (by omega)⟩, Below.refl _ _⟩
  case round =>
    obtain ⟨⟨k, hk, rfl, hno⟩, hbw⟩ := hrel
    by_cases hlt : k < L.length
    · obtain ⟨b, off, rfl, hb, h0, h1⟩ := (HR.out.below hbw (Nat.le_refl _)).it hlt
      have hc := hp wr hbw L[k] (List.getElem_mem _)
      have HN := hid hno
      have HB := hid hbw
      have HC := hid hc
      clear hno hbw hc
      generalize hd : L[k] = d at *
      obtain ⟨xr, xA, xk, xn⟩ := d
      have HD := hid hd
      clear hd
      (try simp only [IR.cells] at h0 h1 HC)
      obtain ⟨pd, hpd⟩ : ∃ b, b = p ⟨xr, xA, xk, xn⟩ := ⟨_, rfl⟩
      rw [← hpd] at HC
      have HP := hid hpd
      clear hpd
      cases pd
      all_goals
        go_wp2_with (refine (HC.out).mono ?_; rintro e w1 ⟨rfl, hb1⟩)
      · go_roundw
        case rel =>
          refine ⟨⟨k + 1, by omega, by go_num, fun j h hj => ?_⟩, HB.out.trans (hb1.mono HB.out.size)⟩
          by_cases e : j = k
          · subst e; rw [HD.out]; exact HP.out.symm
          · exact HN.out j h (by omega)
        case measure => simp [intOf]; omega
      · go_ret
        refine ⟨k, rfl, iff_of_true (by omega) (List.any_eq_true.2 ⟨L[k], List.getElem_mem _, by rw [HD.out]; exact HP.out.symm⟩), HB.out.trans (hb1.mono HB.out.size)⟩
    · go_wp2
      go_ret
      refine ⟨-1, rfl, iff_of_false (by omega) ?_, hbw⟩
      intro hm
      obtain ⟨d, hd, e⟩ := List.any_eq_true.1 hm
      obtain ⟨j, hj, rfl⟩ := List.getElem_of_mem hd
      rw [hno j hj (by omega)] at e
      cases e
theorem containsIt_any (g : Nat) (caps : Array Value) (p : IR → Bool) (L : List IR) (A : Option Addr) (c : Nat) (w : World) (hr : Row w w.heap.size A (rcells L)) (hl : L.length ≤ 9223372036854775807)
    (eg : ∀ args w, (callFunc g args).run Tryd.prog w = .ok (.enter g args) w) (hp : PredIt g caps p L w) :
    Calls Tryd.prog 22 #[.slice A L.length c, .func (.func g) #[] caps] w fun e w' => e = .returned (.bool (L.any p)) ∧ Below w.heap.size w w' := by
  have H := indexIt_any g caps p L A c w hr hl eg hp
  have HR := hid hr
  have HP := hid hp
  clear hr eg hp
  go_enter Tryd.func22, Tryd.ntmps22
  go_wp2_with (go_at_call 52; refine H.mono ?_; rintro e w' ⟨i, rfl, hi, hb⟩)
  go_ret
  refine ⟨ret_bool ?_, hb⟩
  first
    | (rw [Bool.eq_iff_iff, decide_eq_true_eq]; exact hi)
    | (rw [Bool.eq_iff_iff, decide_eq_true_eq, List.any_eq_true])

end Go.Proofs.YtldlmkfigjicgaaDoor
/- rank's closures, rank.width, the order of rows. -/
namespace Go.Proofs.YtldlmkfigjicgaaDoor
set_option linter.unusedVariables false
set_option linter.unusedSimpArgs false
open Go.ChangeShapes Go.WideShapes Go.ChangeAt Go.RowKit Go.Shelf Go.Lib Go.Sort

/-- A variable that a closure has caught. -/
def Caught (w : World) (a : Addr) (v : Value) : Prop := w.cell? a = some v ∧ a.block < w.heap.size
theorem Caught.step {w w' : World} {b off : Nat} {v : Value} (h : Caught w ⟨b, off, none⟩ v) (hb : Below w.heap.size w w') : Caught w' ⟨b, off, none⟩ v := ⟨((bcell hb).1 b off h.2).trans h.1, Nat.lt_of_lt_of_le h.2 hb.size⟩

theorem width1_any (x : IR) (n : Int) (b : Nat) (w : World) (hc : Caught w ⟨b, 0, none⟩ (.int .i64 n)) :
    Calls Tryd.prog 51 #[.agg x.cells.toArray, .pointer (some ⟨b, 0, none⟩)] w fun e w' => e = .returned (.bool (decide ((x.row.length : Int) ≠ n))) ∧ Below w.heap.size w w' := by
  obtain ⟨xr, xA, xk, xn⟩ := x
  obtain ⟨h0, hlt⟩ := hc
  simp only at hlt
  have hne : (b = w.heap.size) = False := by simp; omega
  simp only [IR.cells]
  go_enter Tryd.func51, Tryd.ntmps51
  go_wp2
  go_ret
  refine ⟨ret_bool ?_, by (repeat' (first | (with_reducible exact Below.refl _ _) | (with_reducible assumption) | (with_reducible refine below_drewN ?_ _) | (with_reducible refine Below.drew ?_) | (with_reducible refine Below.alloc ?_ ?_ _) | (with_reducible refine Below.setCell ?_ ?_ _) | (refine Below.trans ?_ (Below.mono (by assumption) ?_)) | go_size))⟩
  by_cases q : (xr.length : Int) = n <;> simp [q]
theorem enters_width1 : ∀ args w, (callFunc 51 args).run Tryd.prog w = .ok (.enter 51 args) w := enters_of Tryd.func51 (by kernel_rfl) rfl

theorem many1_any (x : IR) (w : World) :
    Calls Tryd.prog 23 #[.agg x.cells.toArray] w fun e w' => e = .returned (.bool (manyB x.it)) ∧ Below w.heap.size w w' := by
  obtain ⟨xr, xA, xk, xn⟩ := x
  simp only [IR.cells, IR.it]
  obtain ⟨R, hR⟩ : ∃ R, R = manyB (xr, xn) := ⟨_, rfl⟩
  rw [← hR]
  have HR := hid hR
  clear hR
  by_cases h1 : xn < 0
  · go_enter Tryd.func23, Tryd.ntmps23
    go_wp2
    go_ret
    exact ⟨ret_bool (by rw [HR.out]; unfold manyB; rw [decide_eq_true h1]; rfl), by (repeat' (first | (with_reducible exact Below.refl _ _) | (with_reducible assumption) | (with_reducible refine below_drewN ?_ _) | (with_reducible refine Below.drew ?_) | (with_reducible refine Below.alloc ?_ ?_ _) | (with_reducible refine Below.setCell ?_ ?_ _) | (refine Below.trans ?_ (Below.mono (by assumption) ?_)) | go_size))⟩
  · by_cases h2 : 400 < xn
    · go_enter Tryd.func23, Tryd.ntmps23
      go_wp2
      go_ret
      exact ⟨ret_bool (by rw [HR.out]; unfold manyB; rw [decide_eq_true h2]; simp), by (repeat' (first | (with_reducible exact Below.refl _ _) | (with_reducible assumption) | (with_reducible refine below_drewN ?_ _) | (with_reducible refine Below.drew ?_) | (with_reducible refine Below.alloc ?_ ?_ _) | (with_reducible refine Below.setCell ?_ ?_ _) | (refine Below.trans ?_ (Below.mono (by assumption) ?_)) | go_size))⟩
    · go_enter Tryd.func23, Tryd.ntmps23
      go_wp2
      go_ret
      exact ⟨ret_bool (by rw [HR.out]; unfold manyB; rw [decide_eq_false (by omega), decide_eq_false (by omega)]; rfl), by (repeat' (first | (with_reducible exact Below.refl _ _) | (with_reducible assumption) | (with_reducible refine below_drewN ?_ _) | (with_reducible refine Below.drew ?_) | (with_reducible refine Below.alloc ?_ ?_ _) | (with_reducible refine Below.setCell ?_ ?_ _) | (refine Below.trans ?_ (Below.mono (by assumption) ?_)) | go_size))⟩
theorem enters_many1 : ∀ args w, (callFunc 23 args).run Tryd.prog w = .ok (.enter 23 args) w := enters_of Tryd.func23 (by kernel_rfl) rfl

theorem wrong1_any (k n : Int) (hn : 0 ≤ n ∧ n ≤ 9223372036854775807) (b : Nat) (w : World) (hc : Caught w ⟨b, 0, none⟩ (.int .i64 n)) :
    Calls Tryd.prog 24 #[.int .i64 k, .pointer (some ⟨b, 0, none⟩)] w fun e w' => e = .returned (.bool (wrongB n k)) ∧ w = w' := by
  obtain ⟨h0, hlt⟩ := hc
  obtain ⟨R, hR⟩ : ∃ R, R = wrongB n k := ⟨_, rfl⟩
  rw [← hR]
  have HR := hid hR
  clear hR
  have hw : IntKind.i64.wrap (-n) = -n := IntWalk.i64_in _ (by omega)
  have hw2 : IntKind.i64.wrap (0 - n) = -n := by rw [Int.zero_sub]; exact hw
  by_cases h1 : k = 0
  · go_enter Tryd.func24, Tryd.ntmps24
    go_wp2
    go_ret
    exact ⟨ret_bool (by rw [HR.out]; unfold wrongB; rw [decide_eq_true h1]; rfl), rfl⟩
  · by_cases h2 : k < -n
    · go_enter Tryd.func24, Tryd.ntmps24
      go_wp2
      go_ret
      exact ⟨ret_bool (by rw [HR.out]; unfold wrongB; rw [decide_eq_true h2]; simp), rfl⟩
    · by_cases h3 : n < k
      · go_enter Tryd.func24, Tryd.ntmps24
        go_wp2
        go_ret
        exact ⟨ret_bool (by rw [HR.out]; unfold wrongB; rw [decide_eq_true h3]; simp), rfl⟩
      · go_enter Tryd.func24, Tryd.ntmps24
        go_wp2
        go_ret
        exact ⟨ret_bool (by rw [HR.out]; unfold wrongB; rw [decide_eq_false (show ¬ k = 0 by omega), decide_eq_false (show ¬ k < -n by omega), decide_eq_false (show ¬ n < k by omega)]; simp [h1]), rfl⟩
theorem enters_wrong1 : ∀ args w, (callFunc 24 args).run Tryd.prog w = .ok (.enter 24 args) w := enters_of Tryd.func24 (by kernel_rfl) rfl

set_option maxHeartbeats 400000 in
set_option maxRecDepth 100000 in
theorem width_any (M : List IR) (A : Option Addr) (c : Nat) (w : World) (hr : RowI w w.heap.size A M) (hl : M.length ≤ 9223372036854775807) :
    Calls Tryd.prog 21 #[.slice A M.length c] w fun e w' => e = .returned (.int .i64 (widI (its M))) ∧ Below w.heap.size w w' := by
  have HR := hid hr
  obtain ⟨R, hR⟩ : ∃ R, R = widI (its M) := ⟨_, rfl⟩
  rw [← hR]
  have HX := hid hR
  clear hr hR
  by_cases h0 : M.length = 0
  · have t0 : ((M.length : Int) == 0) = true := by rw [h0]; rfl
    go_enter Tryd.func21, Tryd.ntmps21
    go_wp2
    go_ret
    refine ⟨ret_int ?_, Below.refl _ _⟩
    rw [HX.out, List.eq_nil_of_length_eq_zero h0]; rfl
  · have t0 : ((M.length : Int) == 0) = false := by simp; exact List.ne_nil_of_length_pos (by omega)
    obtain ⟨b, off, rfl, hb, e0, e1⟩ := HR.out.1.it (show 0 < M.length by omega)
    simp only [Nat.zero_mul, Nat.add_zero] at e0
    have hlt0 : (0 : Int) < (M.length : Int) := by omega
    have HL : Hid (R = if M.any (fun x => decide ((x.row.length : Int) ≠ (M[0].row.length : Int))) = true then -1 else (M[0].row.length : Int)) := hid (by
      rw [HX.out]
      cases M with
      | nil => simp at h0
      | cons y M =>
        show (if ((y :: M).map IR.it).any (fun z => decide (z.1.length ≠ y.row.length)) = true then -1 else (y.row.length : Int)) = _
        rw [List.any_map]
        have e : ((fun z : It => decide (z.1.length ≠ y.row.length)) ∘ IR.it) = fun x : IR => decide ((x.row.length : Int) ≠ (y.row.length : Int)) := by
          funext x
          simp only [Function.comp, IR.it]
          by_cases q : x.row.length = y.row.length
          · rw [decide_eq_false (show ¬ x.row.length ≠ y.row.length by omega), decide_eq_false (show ¬ (x.row.length : Int) ≠ (y.row.length : Int) by omega)]
          · rw [decide_eq_true (show x.row.length ≠ y.row.length by omega), decide_eq_true (show (x.row.length : Int) ≠ (y.row.length : Int) by omega)]
        rw [e]; rfl)
    generalize M[0].row.length = n at *
    have HCT : Hid (∀ w1, Below w.heap.size w w1 → Caught w1 ⟨w.heap.size, 0, none⟩ (.int .i64 n) → Calls Tryd.prog 22 #[.slice (some ⟨b, off, none⟩) M.length c, .func (.func 51) #[] #[.pointer (some ⟨w.heap.size, 0, none⟩)]] w1 fun e w' => e = .returned (.bool (M.any (fun x => decide ((x.row.length : Int) ≠ (n : Int))))) ∧ Below w1.heap.size w1 w') := hid (fun w1 hb hc =>
      containsIt_any 51 #[.pointer (some ⟨w.heap.size, 0, none⟩)] _ M _ c w1 (HR.out.1.step hb) hl enters_width1 (fun w' hb' x hx => width1_any x n w.heap.size w' (hc.step hb')))
    obtain ⟨AN, hAN⟩ : ∃ q, q = M.any (fun x => decide ((x.row.length : Int) ≠ (n : Int))) := ⟨_, rfl⟩
    rw [← hAN] at HCT HL
    clear hAN HX
    go_enter Tryd.func21, Tryd.ntmps21
    go_wp2_with fail
    -- STOP-a
    refine (HCT.out _ (by exact (Below.refl _ _).alloc (Nat.le_refl _) _) (by exact ⟨by simp, by simp⟩)).mono ?_
    rintro e w2 ⟨rfl, hb2⟩
    have hX2 : Blk w2 w.heap.size #[.int .i64 n] 3 := (Blk.new w #[.int .i64 n] 3).step hb2
    have hB2 : Below w.heap.size w w2 := (by refine Below.step' ?_ hb2; (repeat' (first | (with_reducible exact Below.refl _ _) | (with_reducible assumption) | (with_reducible refine below_drewN ?_ _) | (with_reducible refine Below.drew ?_) | (with_reducible refine Below.alloc ?_ ?_ _) | (with_reducible refine Below.setCell ?_ ?_ _) | (refine Below.trans ?_ (Below.mono (by assumption) ?_)) | go_size)))
    have HXA := hid hX2
    have HB := hid hB2
    clear hX2 hb2 hB2
    obtain ⟨cHXA, fHXA, sHXA, nHXA⟩ := HXA.out.all
    try simp only [cbox] at cHXA
    cases AN
    · go_wp2_with fail
      go_ret
      exact ⟨ret_int (by rw [HL.out]; rfl), HB.out⟩
    · go_wp2_with fail
      go_ret
      exact ⟨ret_int (by rw [HL.out]; rfl), HB.out⟩
end Go.Proofs.YtldlmkfigjicgaaDoor
/- rank.order: the comparison by columns; slices.SortFunc at items by it. -/
namespace Go.Proofs.YtldlmkfigjicgaaDoor
set_option linter.unusedVariables false
set_option linter.unusedSimpArgs false
open Go.ChangeShapes Go.WideShapes Go.ChangeAt Go.RowKit Go.Shelf Go.Lib Go.Sort

/-- A world that is another one, with more memory and more drawn. -/
def Grew (w w' : World) : Prop := ∃ q os, w' = grow (w.drewN q) os
theorem Grew.alloc {w w' : World} (h : Grew w w') (o : Obj) : Grew w (w'.alloc o) := by
  obtain ⟨q, os, rfl⟩ := h
  exact ⟨q, os ++ #[o], by rw [alloc_eq_grow, grow_grow]⟩
theorem Grew.drewN {w w' : World} (h : Grew w w') (n : Nat) : Grew w (w'.drewN n) := by
  obtain ⟨q, os, rfl⟩ := h
  exact ⟨q + n, os, by simp [grow, World.drewN, Nat.add_assoc]⟩
theorem Grew.refl (w : World) : Grew w w := ⟨0, #[], by simp [grow, World.drewN]⟩
theorem Grew.below {w w' : World} (h : Grew w w') : Below w.heap.size w w' := by
  obtain ⟨q, os, rfl⟩ := h
  refine ⟨rfl, rfl, rfl, by simp [grow, World.drewN], fun k hk => ?_⟩
  simp [grow, World.drewN, Array.getElem?_append, hk]

/-- The numbers of an order fit rows of so many columns. -/
def ByOk (n : Nat) (bs : List Int) : Prop := ∀ k ∈ bs, k ≠ 0 ∧ -(n : Int) ≤ k ∧ k ≤ n

set_option maxHeartbeats 1000000 in
set_option maxRecDepth 100000 in
theorem order1_any (bs : List Int) (bA : Option Addr) (bc : Nat) (g : Nat) (x y : IR) (w : World) (hb : Row w w.heap.size bA (icells' bs)) (hbl : bs.length ≤ 9223372036854775807) (hc : Caught w ⟨g, 0, none⟩ (.slice bA bs.length bc))
    (hx : Row w w.heap.size x.A (icells' x.row)) (hxl : x.row.length ≤ 9223372036854775807) (hy : Row w w.heap.size y.A (icells' y.row)) (hyx : y.row.length = x.row.length) (hok : ByOk x.row.length bs) :
    Calls Tryd.prog 56 #[.agg x.cells.toArray, .agg y.cells.toArray, .pointer (some ⟨g, 0, none⟩)] w fun e w' => e = .returned (.int .i64 (cmpBy bs x.row y.row)) ∧ Grew w w' := by
  obtain ⟨xr, xA, xk, xn⟩ := x
  obtain ⟨yr, yA, yk, yn⟩ := y
  simp only at hx hxl hy hyx hok ⊢
  have HRX := hid hx
  have HRY := hid hy
  have HRB := hid hb
  have HCA := hid hc
  have HOK := hid hok
  have HLL := hid hyx
  have HCO := hid (fun w1 (hb : Below w.heap.size w w1) => orderL_any xr yr xA yA xk yk w1 (hx.step hb) (hy.step hb) hxl (by omega))
  have hyl : yr.length ≤ 9223372036854775807 := by omega
  obtain ⟨R, hR⟩ : ∃ R, R = cmpBy bs xr yr := ⟨_, rfl⟩
  rw [← hR]
  have HR0 : Hid (R = cmpBy (bs.drop 0) xr yr) := hid hR
  have hgl := hc.2
  simp only at hgl
  have hg0 := hc.1
  have hne1 : (g = w.heap.size) = False := by simp; omega
  have hne2 : (g = w.heap.size + 1) = False := by simp; omega
  clear hx hy hb hc hok hR hyx
  simp only [IR.cells]
  go_enter Tryd.func56, Tryd.ntmps56
  have HX0 := hid ((Blk.new w #[.slice xA xr.length xk, .int .i64 xn] 51).alloc (.cells #[.slice yA yr.length yk, .int .i64 yn] 51))
  have HY0 := hid (Blk.new' (w.alloc (.cells #[.slice xA xr.length xk, .int .i64 xn] 51)) (b := w.heap.size + 1) #[.slice yA yr.length yk, .int .i64 yn] 51 (by simp))
  have HG0 := hid (((Grew.refl w).alloc (.cells #[.slice xA xr.length xk, .int .i64 xn] 51)).alloc (.cells #[.slice yA yr.length yk, .int .i64 yn] 51))
  go_wp2_with fail
  -- STOP-a
  go_loopw [13] (fun s13 wr => ∃ k : Nat, k ≤ bs.length ∧ s13 = .int .i64 k ∧ Hid (R = cmpBy (bs.drop k) xr yr) ∧ Hid (Blk wr w.heap.size #[.slice xA xr.length xk, .int .i64 xn] 51) ∧ Hid (Blk wr (w.heap.size + 1) #[.slice yA yr.length yk, .int .i64 yn] 51) ∧ Hid (Grew w wr)) (fun s13 _ => bs.length - (intOf s13).toNat)
  case atStart => exact ⟨0, by omega, rfl, HR0, HX0, HY0, HG0⟩
  case round =>
    clear HR0 HX0 HY0 HG0
    obtain ⟨k, hk, rfl, HK, HX, HY, HG⟩ := hrel
    have HB := hid HG.out.below
    by_cases hlt : k < bs.length
    · obtain ⟨b, off, rfl, hb, h0⟩ := (HRB.out.step HB.out).int' hlt
      obtain ⟨n0, n1, n2⟩ := HOK.out bs[k] (List.getElem_mem hlt)
      have HD := hid (List.drop_eq_getElem_cons hlt)
      replace HK : Hid (R = if colv bs[k] xr < colv bs[k] yr then -1 else if colv bs[k] yr < colv bs[k] xr then 1 else cmpBy (bs.drop (k + 1)) xr yr) := hid (by rw [HK.out, HD.out, cmpBy_cons])
      clear HD
      generalize bs[k] = n at *
      have hLL := HLL.out
      by_cases hn : n < 0
      · obtain ⟨j, hj⟩ : ∃ j : Nat, (j : Int) = -n - 1 := ⟨(-n - 1).toNat, by omega⟩
        have hjn : (-n - 1).toNat = j := by omega
        have jx : j < xr.length := by omega
        have jy : j < yr.length := by omega
        obtain ⟨bx, ox, rfl, hbx, vx⟩ := (HRX.out.step HB.out).int' jx
        obtain ⟨by', oy, rfl, hby, vy⟩ := (HRY.out.step HB.out).int' jy
        have ex : colv n xr = -xr[j] := by rw [colv, if_pos hn, hjn, List.getD_eq_getElem?_getD, List.getElem?_eq_getElem jx]; rfl
        have ey : colv n yr = -yr[j] := by rw [colv, if_pos hn, hjn, List.getD_eq_getElem?_getD, List.getElem?_eq_getElem jy]; rfl
        rw [ex, ey] at HK
        clear ex ey
        generalize xr[j] = u at *
        generalize yr[j] = v at *
        have hC := fun w1 => compareZ_any u v w1
        obtain ⟨cv, hcv⟩ : ∃ cv, cv = cmpZ u v := ⟨_, rfl⟩
        rw [← hcv] at hC
        have HC := hid hC
        have HCV := hid hcv
        have w1 : IntKind.i64.wrap (-n) = -n := IntWalk.i64_in _ (by omega)
        have w3 : IntKind.i64.wrap (-n - 1) = (j : Int) := by rw [hj]; exact IntWalk.i64_in _ (by omega)
        have p1 : (j : Int) < (xr.length : Int) := by omega
        have p2 : (j : Int) < (yr.length : Int) := by omega
        clear hj hjn hLL
        clear hC hcv
        obtain ⟨cHX, fHX, sHX, nHX⟩ := HX.out.all
        try simp only [cbox] at cHX
        obtain ⟨cHY, fHY, sHY, nHY⟩ := HY.out.all
        try simp only [cbox] at cHY
        by_cases hz : cv = 0
        · have t1 : (cv != 0) = false := by simp [hz]
          have HZ := hid hz
          clear hz
          go_wp2_with fail
          -- STOP-b
          refine wp_region_quiet_lit (by kernel_rfl) (by kernel_rfl) ?_
          repeat (any_goals ((with_reducible refine wpQuiet_step (fun K hK => ?_)); go_simp; first | (with_reducible refine hK _ ?_; clear hK K) | ((with_reducible apply Exists.intro); (with_reducible refine ⟨fun _ => ?_, hK _ ?_⟩); (go_at_call 57; exact (HC.out _).mono fun _ _ ⟨he, hb⟩ => ⟨he, _, hb.symm⟩); clear hK K) | ((with_reducible refine (if_neg ?_).mpr (hK _ ?_)); (decide); clear hK K) | (split <;> (with_reducible refine hK _ ?_; clear hK K))))
          all_goals ((with_reducible refine wpQuiet_nil ?_); intro _ hw'; obtain ⟨nq, hw''⟩ := hw'; subst hw'')
          go_wp2_with fail
          go_roundw
          case rel => exact ⟨k + 1, by omega, by go_num, hid (by rw [HK.out]; have := HZ.out; rw [HCV.out] at this; unfold cmpZ at this; (repeat' split at this) <;> first | omega | (rw [if_neg (by omega), if_neg (by omega)])), hid (HX.out.drewN _), hid (HY.out.drewN _), hid (HG.out.drewN _)⟩
          case measure => simp [intOf]; omega
        · have t1 : (cv != 0) = true := by simp [hz]
          have HZ := hid hz
          have rng : cv = -1 ∨ cv = 1 := by have := HCV.out; unfold cmpZ at this; (repeat' split at this) <;> omega
          have w4 : IntKind.i64.wrap (-1 * cv) = -cv := by rw [Int.neg_one_mul]; exact IntWalk.i64_in _ (by omega)
          have w5 : IntKind.i64.wrap (-cv) = -cv := IntWalk.i64_in _ (by omega)
          clear hz rng
          go_wp2_with fail
          refine wp_region_quiet_lit (by kernel_rfl) (by kernel_rfl) ?_
          repeat (any_goals ((with_reducible refine wpQuiet_step (fun K hK => ?_)); go_simp; first | (with_reducible refine hK _ ?_; clear hK K) | ((with_reducible apply Exists.intro); (with_reducible refine ⟨fun _ => ?_, hK _ ?_⟩); (go_at_call 57; exact (HC.out _).mono fun _ _ ⟨he, hb⟩ => ⟨he, _, hb.symm⟩); clear hK K) | ((with_reducible refine (if_neg ?_).mpr (hK _ ?_)); (decide); clear hK K) | (split <;> (with_reducible refine hK _ ?_; clear hK K))))
          all_goals ((with_reducible refine wpQuiet_nil ?_); intro _ hw'; obtain ⟨nq, hw''⟩ := hw'; subst hw'')
          go_wp2_with fail
          go_ret
          exact ⟨ret_int (by rw [HK.out]; have := HZ.out; rw [HCV.out] at this ⊢; unfold cmpZ at this ⊢; (repeat' split) <;> omega), HG.out.drewN _⟩
      · obtain ⟨j, hj⟩ : ∃ j : Nat, (j : Int) = n - 1 := ⟨(n - 1).toNat, by omega⟩
        have hjn : (n - 1).toNat = j := by omega
        have jx : j < xr.length := by omega
        have jy : j < yr.length := by omega
        obtain ⟨bx, ox, rfl, hbx, vx⟩ := (HRX.out.step HB.out).int' jx
        obtain ⟨by', oy, rfl, hby, vy⟩ := (HRY.out.step HB.out).int' jy
        have ex : colv n xr = xr[j] := by rw [colv, if_neg hn, hjn, List.getD_eq_getElem?_getD, List.getElem?_eq_getElem jx]; rfl
        have ey : colv n yr = yr[j] := by rw [colv, if_neg hn, hjn, List.getD_eq_getElem?_getD, List.getElem?_eq_getElem jy]; rfl
        rw [ex, ey] at HK
        clear ex ey
        generalize xr[j] = u at *
        generalize yr[j] = v at *
        have hC := fun w1 => compareZ_any u v w1
        obtain ⟨cv, hcv⟩ : ∃ cv, cv = cmpZ u v := ⟨_, rfl⟩
        rw [← hcv] at hC
        have HC := hid hC
        have HCV := hid hcv
        have w3 : IntKind.i64.wrap (n - 1) = (j : Int) := by rw [hj]; exact IntWalk.i64_in _ (by omega)
        have p1 : (j : Int) < (xr.length : Int) := by omega
        have p2 : (j : Int) < (yr.length : Int) := by omega
        clear hj hjn hLL
        clear hC hcv
        obtain ⟨cHX, fHX, sHX, nHX⟩ := HX.out.all
        try simp only [cbox] at cHX
        obtain ⟨cHY, fHY, sHY, nHY⟩ := HY.out.all
        try simp only [cbox] at cHY
        by_cases hz : cv = 0
        · have t1 : (cv != 0) = false := by simp [hz]
          have HZ := hid hz
          clear hz
          go_wp2_with fail
          refine wp_region_quiet_lit (by kernel_rfl) (by kernel_rfl) ?_
          repeat (any_goals ((with_reducible refine wpQuiet_step (fun K hK => ?_)); go_simp; first | (with_reducible refine hK _ ?_; clear hK K) | ((with_reducible apply Exists.intro); (with_reducible refine ⟨fun _ => ?_, hK _ ?_⟩); (go_at_call 57; exact (HC.out _).mono fun _ _ ⟨he, hb⟩ => ⟨he, _, hb.symm⟩); clear hK K) | ((with_reducible refine (if_neg ?_).mpr (hK _ ?_)); (decide); clear hK K) | (split <;> (with_reducible refine hK _ ?_; clear hK K))))
          all_goals ((with_reducible refine wpQuiet_nil ?_); intro _ hw'; obtain ⟨nq, hw''⟩ := hw'; subst hw'')
          go_wp2_with fail
          go_roundw
          case rel => exact ⟨k + 1, by omega, by go_num, hid (by rw [HK.out]; have := HZ.out; rw [HCV.out] at this; unfold cmpZ at this; (repeat' split at this) <;> first | omega | (rw [if_neg (by omega), if_neg (by omega)])), hid (HX.out.drewN _), hid (HY.out.drewN _), hid (HG.out.drewN _)⟩
          case measure => simp [intOf]; omega
        · have t1 : (cv != 0) = true := by simp [hz]
          have HZ := hid hz
          have rng : cv = -1 ∨ cv = 1 := by have := HCV.out; unfold cmpZ at this; (repeat' split at this) <;> omega
          have w4 : IntKind.i64.wrap (1 * cv) = cv := by rw [Int.one_mul]; exact IntWalk.i64_in _ (by omega)
          have w5 : IntKind.i64.wrap cv = cv := IntWalk.i64_in _ (by omega)
          clear hz rng
          go_wp2_with fail
          refine wp_region_quiet_lit (by kernel_rfl) (by kernel_rfl) ?_
          repeat (any_goals ((with_reducible refine wpQuiet_step (fun K hK => ?_)); go_simp; first | (with_reducible refine hK _ ?_; clear hK K) | ((with_reducible apply Exists.intro); (with_reducible refine ⟨fun _ => ?_, hK _ ?_⟩); (go_at_call 57; exact (HC.out _).mono fun _ _ ⟨he, hb⟩ => ⟨he, _, hb.symm⟩); clear hK K) | ((with_reducible refine (if_neg ?_).mpr (hK _ ?_)); (decide); clear hK K) | (split <;> (with_reducible refine hK _ ?_; clear hK K))))
          all_goals ((with_reducible refine wpQuiet_nil ?_); intro _ hw'; obtain ⟨nq, hw''⟩ := hw'; subst hw'')
          go_wp2_with fail
          go_ret
          exact ⟨ret_int (by rw [HK.out]; have := HZ.out; rw [HCV.out] at this ⊢; unfold cmpZ at this ⊢; (repeat' split) <;> omega), HG.out.drewN _⟩
    · have hkb : k = bs.length := by omega
      subst hkb
      rw [List.drop_length] at HK
      have HCW := hid (HCO.out wr HB.out)
      obtain ⟨cHX, fHX, sHX, nHX⟩ := HX.out.all
      try simp only [cbox] at cHX
      obtain ⟨cHY, fHY, sHY, nHY⟩ := HY.out.all
      try simp only [cbox] at cHY
      go_wp2_with (go_at_call 50; refine HCW.out.mono ?_; rintro e w' ⟨rfl, rfl⟩)
      go_ret
      exact ⟨ret_int (by rw [HK.out, cmpBy_nil]), HG.out⟩
theorem enters_order1 : ∀ args w, (callFunc 56 args).run Tryd.prog w = .ok (.enter 56 args) w := enters_of Tryd.func56 (by kernel_rfl) rfl
end Go.Proofs.YtldlmkfigjicgaaDoor
/- slices.Clone at Item; slices.SortFunc at Item by an order of columns. -/
namespace Go.Proofs.YtldlmkfigjicgaaDoor
set_option linter.unusedVariables false
set_option linter.unusedSimpArgs false
open Go.ChangeShapes Go.WideShapes Go.ChangeAt Go.RowKit Go.Shelf Go.Lib Go.Sort

/-- A list of a call's own making, of given cells. -/
def OwnPost (T : TypeId) (s n : Nat) (xs : List Value) (w : World) (e : Ending) (w' : World) : Prop := ∃ v, e = .returned v ∧ w'.ownsRow w.heap.size T s v n xs ∧ Below w.heap.size w w'
set_option maxHeartbeats 400000 in
set_option maxRecDepth 100000 in
theorem cloneIt_any (M : List IR) (A : Option Addr) (c : Nat) (w : World) (hr : Row w w.heap.size A (rcells M)) (hl : M.length ≤ 1048576) :
    Calls Tryd.prog 26 #[.slice A M.length c] w (OwnPost 51 2 M.length (rcells M) w) := by
  rcases A with _ | ad
  · have he : M = [] := by
      rcases hr with h | ⟨b, off, h, _⟩
      · cases M with
        | nil => rfl
        | cons x M => simp [rcells, IR.cells] at h
      · cases h
    subst he
    have hnil := fun (w : World) => Lib.run_eql_slice_nil w (P := Tryd.prog) (t := 22) (e := 51) none 0 c 0 0 Tryd.underlying22
    go_enter Tryd.func26, Tryd.ntmps26
    go_wp2
    go_ret
    exact ⟨_, rfl, World.ownsRow_nil _ _ _ _, Below.refl _ _⟩
  · have hnil := fun (w : World) => Lib.run_eql_slice_nil w (P := Tryd.prog) (t := 22) (e := 51) (some ad) M.length c 0 0 Tryd.underlying22
    have HR := hid hr
    have h2 := rcells_len M
    clear hr
    go_enter Tryd.func26, Tryd.ntmps26
    go_wp2_with (at_builtin; refine wpList_append_row elem_item rfl _ _ rfl w.heap.size (.slice (some ⟨w.heap.size, 0, none⟩) 0 0) 0 [] rfl (World.ownsRow_made w #[] 0 (Nat.le_refl _) (by decide) rfl) (some ad) M.length c w.heap.size (rcells M) rfl ?_ (HR.out.below (Below.alloc (Below.refl _ _) (Nat.le_refl _) _) (Nat.le_refl _)) ?_ ?_ ?_ ?_ ?_; rotate_right; intro v1 w1 hown1 hg1 hat1; rotate_left; (exact h2); (exact rcells_one M); (simp only [maxLen]; omega); (omega); (simp))
    go_ret
    refine ⟨_, rfl, by simpa using hown1, ((Below.refl _ _).alloc (Nat.le_refl _) _).grown hg1 (by simp) (fun k hk => ?_)⟩
    simp [Value.ownBlock] at hk
    omega

theorem order_any (bs : List Int) (bA : Option Addr) (bc : Nat) (w : World) :
    Calls Tryd.prog 28 #[.slice bA bs.length bc] w fun e w' => e = .returned (.func (.func 56) #[] #[.pointer (some ⟨w.heap.size, 0, none⟩)]) ∧ w' = w.alloc (.cells #[.slice bA bs.length bc] 23) := by
  go_enter Tryd.func28, Tryd.ntmps28
  go_wp2
  go_ret
  exact ⟨rfl, rfl⟩

/-- What is asked of the items that a sort by columns orders: their rows lie below B, and are of one width. -/
def RowN (w : World) (B n : Nat) (x : IR) : Prop := Row w B x.A (icells' x.row) ∧ x.row.length = n
def byCf {Q : IR → Prop} (bs : List Int) (x y : QI Q) : Int := cmpBy bs x.1.row y.1.row
theorem swo_by {Q : IR → Prop} (bs : List Int) : SWO (ltOf (byCf (Q := Q) bs)) where
  irrefl x := swo_it.irrefl (byKey bs x.1.row, 0)
  trans x y z h1 h2 := swo_it.trans (byKey bs x.1.row, 0) (byKey bs y.1.row, 0) (byKey bs z.1.row, 0) h1 h2
  ntrans x y z h1 h2 := swo_it.ntrans (byKey bs x.1.row, 0) (byKey bs y.1.row, 0) (byKey bs z.1.row, 0) h1 h2
theorem Caught.grown {w w' : World} {b off : Nat} {v : Value} (h : Caught w ⟨b, off, none⟩ v) {r : Option Nat} (hg : w.grownBy w' r) (hne : some b ≠ r) : Caught w' ⟨b, off, none⟩ v :=
  ⟨(World.cell?_of_block (w := w) (hg.block b h.2 hne)).trans h.1, Nat.lt_of_lt_of_le h.2 hg.size⟩
theorem cmpLays_order1 {w : World} {B n : Nat} [Inhabited (QI (RowN w B n))] (bs : List Int) (bA : Option Addr) (bc g0 : Nat) (blk off size : Nat) (hB : B ≤ w.heap.size) (hblk : B ≤ blk) (hb : Row w B bA (icells' bs)) (hbl : bs.length ≤ 9223372036854775807) (hc : Caught w ⟨g0, 0, none⟩ (.slice bA bs.length bc)) (hg0 : g0 ≠ blk) (hn : n ≤ 9223372036854775807) (hok : ByOk n bs) :
    CmpLays Tryd.prog 56 #[.pointer (some ⟨g0, 0, none⟩)] (QI.cells (Q := RowN w B n)) 2 (byCf bs) blk off size w := fun m os dk hs x y => by
  have hg := sortWorldK_grown (QI.cells (Q := RowN w B n)) 2 w blk off m dk os
  have hr : ∀ z : QI (RowN w B n), Row (sortWorldK (QI.cells (Q := RowN w B n)) 2 w blk off m dk os) (sortWorldK (QI.cells (Q := RowN w B n)) 2 w blk off m dk os).heap.size z.1.A (icells' z.1.row) := fun z =>
    (z.2.1.grown hB hg (fun k e => by injection e with e; omega)).more (Nat.le_trans hB hg.size)
  have hx := x.2.2
  have hy := y.2.2
  exact order1_any bs bA bc g0 x.1 y.1 _ ((hb.grown hB hg (fun k e => by injection e with e; omega)).more (Nat.le_trans hB hg.size)) hbl (hc.grown hg (fun e => hg0 (by injection e))) (hr x) (by omega) (hr y) (by omega) (by rw [hx]; exact hok)

/-- slices.SortFunc by columns, over a row that the call owns. -/
theorem sortBy_own {B : Nat} {v : Value} (bs : List Int) (bA : Option Addr) (bc g0 n : Nat) (L : List IR) (w : World) (hown : w.ownsRow B 51 2 v L.length (rcells L)) (hr : ∀ x ∈ L, RowN w B n x) (hB : B ≤ w.heap.size) (hb : Row w B bA (icells' bs)) (hbl : bs.length ≤ 9223372036854775807)
    (hc : Caught w ⟨g0, 0, none⟩ (.slice bA bs.length bc)) (hg0 : some g0 ≠ v.ownBlock) (hn : n ≤ 9223372036854775807) (hok : ByOk n bs) (hl : L.length ≤ 140737488355328) :
    Calls Tryd.prog 27 #[v, .func (.func 56) #[] #[.pointer (some ⟨g0, 0, none⟩)]] w fun e w' => e = .returned (.tuple #[]) ∧ ∃ L' : List IR, L'.Perm L ∧ (its L').Pairwise (fun x y => byLt bs y x = false) ∧ w'.ownsRow B 51 2 v L.length (rcells L') ∧ w.grownBy w' v.ownBlock := by
  rcases hown.2 with ⟨rfl, h0⟩ | ⟨g, cap, cur, rfl, hbg, hg, hcap, hm, hs, ht⟩
  · have hl0 : L = [] := List.eq_nil_of_length_eq_zero h0
    subst hl0
    refine (AnyF.slices_SortFunc_none Tryd.sortItem none 0 _ w).mono fun e w' ⟨he, hw⟩ => ?_
    subst hw
    exact ⟨he, [], List.Perm.refl _, List.Pairwise.nil, hown, ⟨rfl, rfl, rfl, Nat.le_refl _, fun _ _ _ => rfl⟩⟩
  · have hlt : g < w.heap.size := by
      rcases Nat.lt_or_ge g w.heap.size with h | h
      · exact h
      · rw [Array.getElem?_eq_none h] at hg; cases hg
    by_cases hL0 : L = []
    · subst hL0
      refine (AnyF.slices_SortFunc_none Tryd.sortItem _ cap _ w).mono fun e w' ⟨he, hw⟩ => ?_
      subst hw
      exact ⟨he, [], List.Perm.refl _, List.Pairwise.nil, hown, ⟨rfl, rfl, rfl, Nat.le_refl _, fun _ _ _ => rfl⟩⟩
    · haveI : Inhabited (QI (RowN w B n)) := ⟨⟨L.head hL0, hr _ (List.head_mem hL0)⟩⟩
      have hv : (L.attachWith (RowN w B n) hr).map Subtype.val = L := by simp
      obtain ⟨l, hLe⟩ : ∃ l : List (QI (RowN w B n)), l = L.attachWith (RowN w B n) hr := ⟨_, rfl⟩
      rw [← hLe] at hv
      have hln : l.length = L.length := by rw [← hv, List.length_map]
      have hcells : l.flatMap QI.cells = rcells L := by rw [cells_val, hv]
      have hg0' : g0 ≠ g := fun e => hg0 (by rw [e]; rfl)
      have H := AnyQ.slices_SortFunc Tryd.sortItem 2 Tryd.isAgg51 Tryd.sizeOf51 (QI.cells (Q := RowN w B n)) (fun _ => rfl) (fun x u hu => by simp only [QI.cells, IR.cells, List.mem_cons, List.not_mem_nil, or_false] at hu; rcases hu with rfl | rfl <;> rfl) (byCf bs) (swo_by bs) 56 #[.pointer (some ⟨g0, 0, none⟩)] g 0 cap l.toArray w enters_order1
        (cmpLays_order1 bs bA bc g0 g 0 l.toArray.size hB hbg hb hbl hc hg0' hn hok) (own_holds _ (fun _ => rfl) hg (by rw [hln, ht, hcells])) hlt (by rw [List.size_toArray, hln]; omega)
      rw [show l.toArray.size = L.length by rw [List.size_toArray, hln]] at H
      refine H.mono fun e w' ⟨he, d', m, os, hp, hsrt, hw⟩ => ?_
      rw [show L.length = l.toArray.size by rw [List.size_toArray, hln]] at hp hsrt
      have hperm := perm_all hp
      have hd : d' = d'.toList.toArray := by simp
      have hdl : d'.toList.length = L.length := by rw [hperm.length_eq]; simpa using hln
      have ho := own_sorted (QI.cells (Q := RowN w B n)) (fun _ => rfl) (l' := d'.toList) (n := m) (os := os) hbg hg (by rw [hdl]; exact hcap) hm hs
      rw [← hd, ← hw, cells_val, hdl] at ho
      refine ⟨he, d'.toList.map Subtype.val, ?_, ?_, ho, ?_⟩
      · have := hperm.map Subtype.val
        rw [hv] at this
        exact this
      · rw [List.pairwise_iff_getElem]
        intro i j hi hj hij
        simp only [its, List.length_map] at hi hj
        have h1 := hsrt i j (Nat.zero_le _) hij (by rw [List.size_toArray, hln, ← hdl]; exact hj)
        have hi' : i < d'.size := by simpa using hi
        have hj' : j < d'.size := by simpa using hj
        rw [getElem!_pos d' i hi', getElem!_pos d' j hj'] at h1
        simp only [its, List.getElem_map, Array.getElem_toList, IR.it]
        exact h1
      · rw [hw]
        exact sortWorldK_grown _ _ _ _ _ _ _ _
end Go.Proofs.YtldlmkfigjicgaaDoor
/- rank.Rows. -/
namespace Go.Proofs.YtldlmkfigjicgaaDoor
set_option linter.unusedVariables false
set_option linter.unusedSimpArgs false
open Go.ChangeShapes Go.WideShapes Go.ChangeAt Go.RowKit

/-- Rows as a list of slices of ints: the items' rows alone. -/
abbrev kcells (M : List IR) : List Value := M.flatMap fun x => [.slice x.A x.row.length x.k]
abbrev nrows (M : List IR) : List (List Int) := M.map IR.row
def RowsPost (S : List (List Int)) (x : Int) (w : World) (e : Ending) (w' : World) : Prop :=
  ∃ (A : Option Addr) (k : Nat) (M : List IR), e = .returned (.tuple #[.slice A M.length k, .int .i64 x]) ∧ nrows M = S ∧ w'.ownsRow w.heap.size 23 1 (.slice A M.length k) M.length (kcells M) ∧ RowsNew w' w.heap.size (.slice A M.length k) M ∧ Below w.heap.size w w'
theorem rowsPost_nil {S : List (List Int)} {w w' : World} {x y : Int} (hS : S = []) (hx : y = x) (hb : Below w.heap.size w w') : RowsPost S y w (.returned (.tuple #[.slice none 0 0, .int .i64 x])) w' := by
  subst hS hx; exact ⟨none, 0, [], rfl, rfl, World.ownsRow_nil _ _ _ _, RowsNew.nil _ _ _, hb⟩
theorem kcells_snoc (M : List IR) (x : IR) : kcells (M ++ [x]) = kcells M ++ [.slice x.A x.row.length x.k] := by rw [kcells, List.flatMap_append]; simp
theorem wid_le {l : List It} (h : setI l = 0) : widI l ≤ 8 := by
  cases l with
  | nil => decide
  | cons x l =>
    have := (badB_false ((setI_zero.1 h).2.1 x (by simp))).1
    unfold widI
    simp only
    split <;> omega
theorem expd_succ (L : List It) (i : Nat) (hi : i < L.length) : expd (L.take (i + 1)) = expd (L.take i) ++ List.replicate L[i].2.toNat L[i].1 := by
  unfold expd
  rw [List.take_succ_eq_append_getElem hi, List.flatMap_append]; simp
theorem expd_split (L : List It) (i : Nat) : expd L = expd (L.take i) ++ expd (L.drop i) := by
  unfold expd
  rw [← List.flatMap_append, List.take_append_drop]
theorem expd_drop (L : List It) (i : Nat) (hi : i < L.length) : expd (L.drop i) = List.replicate L[i].2.toNat L[i].1 ++ expd (L.drop (i + 1)) := by
  unfold expd
  rw [List.drop_eq_getElem_cons hi, List.flatMap_cons]
theorem elem_ints : Elem Tryd.prog 24 23 1 24 := ⟨Tryd.underlying24, by
  obtain ⟨i, hi, hz, hs, hb⟩ := info_parts (P := Tryd.prog) (e := 23) (z := .slice none 0 0) (size := 1) (bytes := 24) (by kernel_rfl)
  exact ⟨i, _, hi, hz, hs, hb, rfl⟩, by decide⟩

set_option maxHeartbeats 1000000 in
set_option maxRecDepth 100000 in
theorem rows_any (M : List IR) (A : Option Addr) (c : Nat) (bs : List Int) (bA : Option Addr) (bc : Nat) (most : Int) (w : World) (hr : RowI w w.heap.size A M) (hl : M.length ≤ 9223372036854775807) (hb : Row w w.heap.size bA (icells' bs)) (hbl : bs.length ≤ 9223372036854775807) :
    Calls Tryd.prog 5 #[.slice A M.length c, .slice bA bs.length bc, .int .i64 most] w (RowsPost (rankX (its M) bs most) (rankE (its M) bs most) w) := by
  have HCK := hid (zcheck_any M A c w hr hl)
  have HWD := hid (fun w1 (hb : Below w.heap.size w w1) => width_any M A c w1 (hr.step hb) hl)
  have HMY := hid (fun w1 (hb : Below w.heap.size w w1) => containsIt_any 23 #[] (fun x => manyB x.it) M A c w1 (hr.1.step hb) hl enters_many1 (fun w' hb' x hx => many1_any x w'))
  have HWR := hid (fun (g : Nat) (n : Int) (hn : 0 ≤ n ∧ n ≤ 9223372036854775807) w1 (hbb : Below w.heap.size w w1) (hc : Caught w1 ⟨g, 0, none⟩ (.int .i64 n)) => containsNt_any 24 #[.pointer (some ⟨g, 0, none⟩)] (wrongB n) bs bA bc w1 (hb.step hbb) hbl enters_wrong1 (fun w' hb' x hx => (wrong1_any x n hn g w' (hc.step hb')).mono fun e w2 ⟨h1, h2⟩ => ⟨h1, h2 ▸ Below.refl _ _⟩))
  have HX := hid (show rankX (its M) bs most = if rankE (its M) bs most = 0 then (expd ((its M).mergeSort (byLe bs))).take most.toNat else [] from rfl)
  have HE := hid (show rankE (its M) bs most = if setI (its M) ≠ 0 then setI (its M) else if (decide (widI (its M) < 0) || (its M).any manyB) = true then 5 else if (decide (8 < bs.length) || bs.any (wrongB (widI (its M))) || decide (most < 0) || decide (400 < most)) = true then 1 else 0 from rfl)
  have HWL := hid (@wid_le (its M))
  have HR := hid hr
  have HBS := hid hb
  have hany : M.any (fun x => manyB x.it) = (its M).any manyB := by rw [its, List.any_map]; rfl
  have HZ := hid (@rankE_zero (its M) bs most)
  have HWI := hid (fun h : 0 ≤ widI (its M) => wid_rows h)
  have HLS := hid (fun h : setI (its M) = 0 => (setI_zero.1 h))
  rw [hany] at HMY
  clear hr hb hany
  obtain ⟨S, hS⟩ : ∃ q, q = setI (its M) := ⟨_, rfl⟩
  obtain ⟨W, hW⟩ : ∃ q, q = widI (its M) := ⟨_, rfl⟩
  obtain ⟨Y, hY⟩ : ∃ q, q = (its M).any manyB := ⟨_, rfl⟩
  obtain ⟨E, hE⟩ : ∃ q, q = rankE (its M) bs most := ⟨_, rfl⟩
  obtain ⟨X, hX⟩ : ∃ q, q = rankX (its M) bs most := ⟨_, rfl⟩
  rw [← hS] at HCK HE HWL HLS
  rw [← hW] at HWD HE HWL HWI
  rw [← hY] at HMY HE
  rw [← hE] at HE HX HZ ⊢
  rw [← hX] at HX ⊢
  have HWQ := hid hW
  have HSQ := hid hS
  clear hS hW hY hE hX
  go_enter Tryd.func5, Tryd.ntmps5
  go_wp2_with fail
  -- STOP-a
  refine HCK.out.mono ?_
  rintro e w1 ⟨rfl, hb1⟩
  have HBW := hid hb1
  clear hb1
  by_cases q1 : S = 0
  rotate_left
  · have t1 : (S != 0) = true := by simpa using q1
    have hE1 : E = S := by rw [HE.out, if_pos q1]
    have HEE := hid hE1
    have HQ := hid q1
    clear q1 hE1
    go_wp2_with fail
    go_ret2
    exact rowsPost_nil (by rw [HX.out, if_neg (by rw [HEE.out]; exact HQ.out)]) HEE.out HBW.out
  subst q1
  have hW8 := HWL.out rfl
  replace HLS := hid (HLS.out rfl)
  replace HE : Hid (E = if (decide (W < 0) || Y) = true then 5 else if (decide (8 < bs.length) || bs.any (wrongB W) || decide (most < 0) || decide (400 < most)) = true then 1 else 0) := hid (by rw [HE.out, if_neg (by simp)])
  clear HWL HCK
  go_wp2_with fail
  -- STOP-b
  refine (HWD.out _ HBW.out).mono ?_
  rintro e w2 ⟨rfl, hb2⟩
  replace HBW := hid (Below.step' HBW.out hb2)
  clear hb2 HWD
  obtain ⟨W3, hW3⟩ : ∃ W3 : World, W3 = w2.alloc (.cells #[.int .i64 W] 3) := ⟨_, rfl⟩
  have HXN := hid (show Blk W3 w2.heap.size #[.int .i64 W] 3 by rw [hW3]; exact Blk.new _ _ _)
  replace HBW := hid (show Below w.heap.size w W3 by rw [hW3]; exact alloc_below HBW.out _)
  go_upto_region 5 with fail
  rw [← hW3]
  clear hW3
  obtain ⟨cHXN, fHXN, sHXN, nHXN⟩ := HXN.out.all
  try simp only [cbox] at cHXN
  have hnil5 : E = 5 → X = [] := fun h => by rw [HX.out, if_neg (by rw [h]; decide)]
  have HN5 := hid hnil5
  clear hnil5
  by_cases q2 : W < 0
  · have hE5 : E = 5 := by rw [HE.out, if_pos (by simp [q2])]
    have HE5 := hid hE5
    clear hE5
    go_wp2_with fail
    -- STOP-c
    go_ret2
    exact rowsPost_nil (HN5.out HE5.out) HE5.out HBW.out
  go_wp2_with fail
  -- STOP-d
  refine (HMY.out _ HBW.out).mono ?_
  rintro e w4 ⟨rfl, hb4⟩
  clear cHXN fHXN sHXN nHXN
  replace HXN := hid (HXN.out.step hb4)
  replace HBW := hid (Below.step' HBW.out hb4)
  clear hb4 HMY
  have HW0 := hid q2
  cases Y
  rotate_left
  · have HE5 := hid (show E = 5 by rw [HE.out, if_pos (by simp)])
    go_wp2_with fail
    go_ret2
    exact rowsPost_nil (HN5.out HE5.out) HE5.out HBW.out
  replace HE : Hid (E = if (decide (8 < bs.length) || bs.any (wrongB W) || decide (most < 0) || decide (400 < most)) = true then 1 else 0) := hid (by rw [HE.out, if_neg (by simp; have := HW0.out; omega)])
  have HN1 := hid (fun h : E = 1 => show X = [] by rw [HX.out, if_neg (by rw [h]; decide)])
  clear HN5
  by_cases q3 : 8 < bs.length
  · have HE1 := hid (show E = 1 by rw [HE.out, if_pos (by simp [q3])])
    have q3' : (8 : Int) < (bs.length : Int) := by omega
    clear q3
    go_wp2_with fail
    -- STOP-e
    go_ret2
    exact rowsPost_nil (HN1.out HE1.out) HE1.out HBW.out
  have q3' : ¬ (8 : Int) < (bs.length : Int) := by omega
  have q3'' : (bs.length : Int) ≤ (8 : Int) := by omega
  have HQ3 := hid q3
  clear q3
  go_wp2_with fail
  -- STOP-f
  refine (HWR.out w2.heap.size W (by have := HW0.out; omega) _ HBW.out ⟨by have := HXN.out.all.1 0; simpa using this, HXN.out.lt⟩).mono ?_
  rintro e w5 ⟨rfl, hb5⟩
  replace HXN := hid (HXN.out.step hb5)
  replace HBW := hid (Below.step' HBW.out hb5)
  clear hb5 HWR
  obtain ⟨Z, hZ⟩ : ∃ q, q = bs.any (wrongB W) := ⟨_, rfl⟩
  rw [← hZ] at HE ⊢
  clear hZ
  cases Z
  rotate_left
  · have HE1 := hid (show E = 1 by rw [HE.out, if_pos (by simp)])
    go_wp2_with fail
    go_ret2
    exact rowsPost_nil (HN1.out HE1.out) HE1.out HBW.out
  by_cases q4 : most < 0
  · have HE1 := hid (show E = 1 by rw [HE.out, if_pos (by simp [q4])])
    go_wp2_with fail
    go_ret2
    exact rowsPost_nil (HN1.out HE1.out) HE1.out HBW.out
  by_cases q5 : 400 < most
  · have HE1 := hid (show E = 1 by rw [HE.out, if_pos (by simp [q5])])
    go_wp2_with fail
    go_ret2
    exact rowsPost_nil (HN1.out HE1.out) HE1.out HBW.out
  have hE0 : E = 0 := by rw [HE.out, if_neg (by have := HQ3.out; simp; omega)]
  subst hE0
  replace HX : Hid (X = (expd ((its M).mergeSort (byLe bs))).take most.toNat) := hid (by rw [HX.out, if_pos rfl])
  obtain ⟨-, -, z3, -, z5, -, -⟩ := HZ.out rfl
  have HZ3 := hid z3
  have HOK : Hid (ByOk W.toNat bs) := hid (fun k hk => by have := z5 k hk; rw [← HWQ.out] at this; have := HW0.out; omega)
  have hM4 : M.length ≤ 400 := by have := HLS.out.1; rwa [its_len] at this
  replace HWI := hid (HWI.out (by have := HW0.out; omega))
  have HCL := hid (fun w1 (hb : Below w.heap.size w w1) => cloneIt_any M A c w1 (HR.out.1.step hb) (by omega))
  clear HE HN1 z3 z5 HZ
  go_wp2_with fail
  -- STOP-g
  refine (HCL.out _ HBW.out).mono ?_
  rintro e w6 ⟨v6, rfl, hown6, hb6⟩
  obtain ⟨A6, k6, rfl⟩ := own_formS hown6
  have HO6 := hid (own_baseS hown6 HBW.out.size)
  replace HBW := hid (Below.step' HBW.out hb6)
  clear hb6 hown6 HCL HXN
  go_wp2_with fail
  -- STOP-h
  refine (order_any bs bA bc w6).mono ?_
  rintro e w7 ⟨rfl, rfl⟩
  have HSO := hid (sortBy_own bs bA bc w6.heap.size W.toNat M (w6.alloc (.cells #[.slice bA bs.length bc] 23)) (HO6.out.alloc _) (fun x hx => by
    have h1 := HR.out.2 x hx
    have h2 := HWI.out x.it (List.mem_map.2 ⟨x, hx, rfl⟩)
    refine ⟨h1.1.below (alloc_below HBW.out _) (Nat.le_refl _), ?_⟩
    simp only [IR.it] at h2
    omega) (by have := HBW.out.size; simp; omega) (HBS.out.below (alloc_below HBW.out _) (Nat.le_refl _)) hbl ⟨by simp, by simp⟩ (by
    intro e
    have := own_inS HO6.out
    rcases A6 with _ | ⟨b, off, q⟩
    · cases e
    · have h := this b off q rfl
      injection e with e
      simp at e
      omega) (by omega) HOK.out (by omega))
  go_wp2_with fail
  -- STOP-i
  refine HSO.out.mono ?_
  rintro e w8 ⟨rfl, L', hperm, hsrt, hown8, hg8⟩
  have hB8 : Below w.heap.size w w8 := (alloc_below HBW.out _).grown hg8 (by have := HBW.out.size; simp; omega) (fun g e => (HO6.out.lt g e).1)
  have hits : its L' = (its M).mergeSort (byLe bs) := sorted_one HLS.out.2.2 (hperm.map _) hsrt
  rw [← hits] at HX
  have hlen : L'.length = M.length := hperm.length_eq
  have HRL := hid (Row.of_ownS hown8)
  have HRI : Hid (RowsAt w8 w8.heap.size L') := hid (fun x hx => (HR.out.2.step hB8) x (hperm.subset hx))
  have HL8 : Hid (∀ x ∈ L', x.row.length ≤ 8 ∧ 0 ≤ x.n ∧ x.n ≤ 400) := hid (fun x hx => by
    have h1 := HLS.out.2.1 x.it (List.mem_map.2 ⟨x, hperm.subset hx, rfl⟩)
    have h2 := HZ3.out x.it (List.mem_map.2 ⟨x, hperm.subset hx, rfl⟩)
    exact ⟨(badB_false h1).1, h2⟩)
  replace HBW := hid hB8
  obtain ⟨mn, hmn⟩ : ∃ mn : Nat, (mn : Int) = most := ⟨most.toNat, by omega⟩
  have hm400 : mn ≤ 400 := by omega
  rw [show most.toNat = mn by omega] at HX
  have HML := hid hlen
  have hLM : L'.length ≤ 400 := by omega
  subst hmn
  clear hits hsrt hperm hown8 hg8 hB8 HSO HO6 HR HLS HZ3 HOK HWI hlen q4 q5
  go_wp2_with fail
  -- STOP-j
  rw [← HML.out]
  go_loopw [11, 52] (fun s11 s52 wr => ∃ (i : Nat) (S : List IR), i ≤ L'.length ∧ s52 = .int .i64 i ∧ S.length ≤ mn ∧ Hid (nrows S = expd ((its L').take i)) ∧ Hid (wr.ownsRow w8.heap.size 23 1 s11 S.length (kcells S)) ∧ Hid (RowsNew wr w8.heap.size s11 S) ∧ Hid (Below w8.heap.size w8 wr)) (fun _ s52 _ => L'.length - (intOf s52).toNat)
  case atStart => exact ⟨0, [], by omega, rfl, by simp, hid (by simp [nrows, expd]), hid (World.ownsRow_nil _ _ _ _), hid (RowsNew.nil _ _ _), hid (Below.refl _ _)⟩
  case round =>
    obtain ⟨i, S, hi, rfl, hSm, HIS, HOWN, HNEW, HB⟩ := hrel
    obtain ⟨wo, rfl⟩ : ∃ wx : World, wx = wr := ⟨_, rfl⟩
    obtain ⟨A6', c6, rfl⟩ := own_formS HOWN.out
    have hs8 := HB.out.size
    by_cases hlt : i < L'.length
    · obtain ⟨b, off, rfl, hbb, e0, e1⟩ := (HRL.out.step HB.out).it hlt
      have HXR := hid ((HRI.out L'[i] (List.getElem_mem hlt)).1)
      obtain ⟨xl, x0, x4⟩ := HL8.out L'[i] (List.getElem_mem hlt)
      have hil : i < (its L').length := by rw [its_len]; exact hlt
      have hgi : (its L')[i] = L'[i].it := by simp [its]
      have HES := hid (expd_succ (its L') i hil)
      have HED := hid (show expd (its L') = expd ((its L').take i) ++ (List.replicate ((its L')[i].2.toNat) (its L')[i].1 ++ expd ((its L').drop (i + 1))) by rw [← expd_drop _ _ hil]; exact expd_split _ _)
      rw [hgi] at HES HED
      simp only [IR.it] at HES HED
      clear hgi hil
      generalize L'[i] = x at *
      obtain ⟨xr, xA, xk, xn⟩ := x
      simp only at e0 e1 HXR xl x0 x4 HES HED
      obtain ⟨nn, rfl⟩ : ∃ nn : Nat, xn = (nn : Int) := ⟨xn.toNat, by omega⟩
      rw [show ((nn : Int)).toNat = nn by omega] at HES HED
      have hneb : (b = wo.heap.size) = False := by simp; omega
      obtain ⟨P, hP⟩ : ∃ P, P = expd ((its L').take i) := ⟨_, rfl⟩
      rw [← hP] at HIS HES HED
      clear hP
      have HX9 := hid (Blk.new wo #[.slice xA xr.length xk, .int .i64 (nn : Int)] 51)
      have HB9 := hid (alloc_below HB.out (.cells #[.slice xA xr.length xk, .int .i64 (nn : Int)] 51))
      have HO9 := hid (HOWN.out.alloc (.cells #[.slice xA xr.length xk, .int .i64 (nn : Int)] 51))
      have HN9 := hid (HNEW.out.step (alloc_below (Below.refl _ _) (.cells #[.slice xA xr.length xk, .int .i64 (nn : Int)] 51)))
      have HNE : Hid (some wo.heap.size ≠ (Value.slice A6' S.length c6).ownBlock) := hid (fun e => by have := (HOWN.out.lt _ e.symm).2; omega)
      go_wp2_with fail
      -- STOP-k
      obtain ⟨W9, hW9⟩ : ∃ W9 : World, W9 = wo.alloc (.cells #[.slice xA xr.length xk, .int .i64 (nn : Int)] 51) := ⟨_, rfl⟩
      rw [← hW9] at HX9 HB9 HO9 HN9 ⊢
      clear hW9 e0 e1 hneb
      go_loopw [11, 58] (fun s11 s58 wr => ∃ (j : Nat) (S2 : List IR), j ≤ nn ∧ s58 = .int .i64 j ∧ S2.length ≤ mn ∧ Hid (nrows S2 = P ++ List.replicate j xr) ∧ Hid (wr.ownsRow w8.heap.size 23 1 s11 S2.length (kcells S2)) ∧ Hid (RowsNew wr w8.heap.size s11 S2) ∧ Hid (Below w8.heap.size w8 wr) ∧ Hid (Blk wr wo.heap.size #[.slice xA xr.length xk, .int .i64 (nn : Int)] 51) ∧ Hid (some wo.heap.size ≠ s11.ownBlock)) (fun _ s58 _ => nn - (intOf s58).toNat)
      case atStart => exact ⟨0, S, by omega, rfl, hSm, hid (by rw [HIS.out]; simp), HO9, HN9, HB9, HX9, HNE⟩
      case round =>
        obtain ⟨j, S2, hj, rfl, hS2, HJS, HOJ, HNJ, HBJ, HXJ, HNEJ⟩ := hrel
        obtain ⟨wi, rfl⟩ : ∃ wx : World, wx = wr := ⟨_, rfl⟩
        obtain ⟨A7, c7, rfl⟩ := own_formS HOJ.out
        have hs9 := HBJ.out.size
        have hbx9 := HXJ.out.lt
        by_cases hjl : j < nn
        · have hjl' : ((j : Int) < (nn : Int)) = True := eq_true (by omega)
          have HREP : Hid (expd (its L') = nrows S2 ++ (List.replicate (nn - j) xr ++ expd ((its L').drop (i + 1)))) := hid (by
            rw [HED.out, HJS.out, List.append_assoc, ← List.append_assoc (List.replicate j xr), List.replicate_append_replicate, show j + (nn - j) = nn by omega])
          by_cases hq : S2.length = mn
          · have hq' : ((S2.length : Int) == (mn : Int)) = true := by rw [hq]; simp
            have HQ := hid hq
            clear hq
            go_wp2_with fail
            -- STOP-l
            go_ret2
            refine ⟨A7, c7, S2, rfl, ?_, own_baseS HOJ.out HBW.out.size, fun y hy => ⟨(HNJ.out y hy).1, newAt_le (HNJ.out y hy).2.1 HBW.out.size, (HNJ.out y hy).2.2⟩, Below.step' HBW.out HBJ.out⟩
            have hQ := HQ.out
            rw [HX.out, HREP.out, List.take_append_of_le_length (by rw [nrows, List.length_map]; omega), List.take_of_length_le (by rw [nrows, List.length_map]; omega)]
          · have hq' : ((S2.length : Int) == (mn : Int)) = false := beq_eq_false_iff_ne.2 (by omega)
            have HCI := hid (cloneI_any xr xA xk wi (HXR.out.step HBJ.out) (by omega))
            obtain ⟨cHXJ, fHXJ, sHXJ, nHXJ⟩ := HXJ.out.all
            try simp only [cbox] at cHXJ
            go_wp2_with fail
            -- STOP-m
            refine HCI.out.mono ?_
            rintro e wc ⟨A5, c5, rfl, hr5, hn5, hin5, hb5⟩
            have HR5 := hid hr5
            have HN5 := hid hn5
            have HI5 := hid hin5
            have HB5 := hid hb5
            have hs5 := hb5.size
            have HOC := hid (own_laterS HOJ.out hb5)
            have HNC := hid (HNJ.out.step hb5)
            clear cHXJ fHXJ sHXJ nHXJ
            clear hr5 hn5 hin5 hb5
            have hone : ∀ u ∈ ([.slice A5 xr.length c5] : List Value), u.oneCell' = true := by
              intro u hu
              simp only [List.mem_cons, List.not_mem_nil, or_false] at hu
              subst hu; rfl
            go_wp2_with (at_builtin; refine wpList_append_row elem_ints rfl _ _ rfl w8.heap.size _ _ _ rfl (HOC.out.alloc _) (some ⟨wc.heap.size, 0, none⟩) 1 1 (wc.heap.size + 1) [.slice A5 xr.length c5] rfl rfl (Row.new' _ _ _ rfl rfl (Nat.lt_succ_self _)) hone ?_ ?_ ?_ ?_; rotate_right; intro v7 w7 hown7 hg7 hif7; rotate_left; (simp only [maxLen]; omega); (omega); (simp; omega))
            -- STOP-n
            have HOW7 := hid hown7
            have HG7 := hid hg7
            have HIF := hid hif7
            clear hown7 hg7 hif7 hone
            have hq2 := hq
            clear hq hq'
            go_roundw
            case rel =>
              have hne5 : ∀ b off q, A5 = some ⟨b, off, q⟩ → some b ≠ (Value.slice A7 S2.length c7).ownBlock := fun b off q e e2 => by
                have q1 := HN5.out b off q e
                have q2 := (HOJ.out.lt b e2.symm).2
                omega
              have hNA := (HNC.out.step (alloc_below (Below.refl _ _) (.cells #[.slice A5 xr.length c5] 23))).grown HG7.out HIF.out
              have hRA := (((HR5.out.step (alloc_below (Below.refl _ _) (.cells #[.slice A5 xr.length c5] 23))).grown_ne (Nat.le_refl _) HG7.out hne5).more HG7.out.size)
              have hB5 : Below w8.heap.size w8 wc := Below.step' HBJ.out HB5.out
              refine ⟨j + 1, S2 ++ [⟨xr, A5, c5, 0⟩], by omega, by go_num, by simp; omega, hid ?_, hid ?_, hid ?_, hid (Below.grown (alloc_below hB5 _) HG7.out (by simp; omega) (fun g e => (HOJ.out.lt g e).1)), hid ?_, hid ?_⟩
              · show (S2 ++ [_]).map IR.row = _
                rw [List.map_append, List.map_cons, List.map_nil, show S2.map IR.row = P ++ List.replicate j xr from HJS.out, List.append_assoc, List.replicate_succ']
              · rw [kcells_snoc, List.length_append]
                simpa using HOW7.out
              · refine RowsNew.snoc hNA (x := (⟨xr, A5, c5, 0⟩ : IR)) hRA (fun b off q e => by have := HN5.out b off q e; omega) (fun b off q e => ?_) (by simp only; omega)
                have hlt9 := HI5.out b off q e
                have hsz7 := HG7.out.size
                simp at hsz7
                refine ⟨?_, by omega⟩
                rcases HIF.out with h | h
                · rw [h]; exact hne5 b off q e
                · rw [h]; intro e2; injection e2 with e2; simp at e2; omega
              · exact (((HXJ.out.step HB5.out).alloc _).grown HG7.out HNEJ.out)
              · rcases HIF.out with h | h
                · rw [h]; exact HNEJ.out
                · rw [h]; intro e2; injection e2 with e2; simp at e2; omega
            case measure => simp [intOf]; omega
        · have hje : j = nn := by omega
          subst hje
          have hjl' : ¬ (j : Int) < (j : Int) := by omega
          go_wp2_with fail
          -- STOP-o
          go_roundw
          case rel => exact ⟨i + 1, S2, by omega, by go_num, hS2, hid (by rw [HJS.out, HES.out]), HOJ, HNJ, HBJ⟩
          case measure => simp [intOf]; omega
    · have hik : i = L'.length := by omega
      subst hik
      have hTA : (its L').take L'.length = its L' := by rw [← its_len L', List.take_length]
      rw [hTA] at HIS
      go_wp2_with fail
      -- STOP-p
      go_ret2
      refine ⟨A6', c6, S, rfl, ?_, own_baseS HOWN.out HBW.out.size, fun y hy => ⟨(HNEW.out y hy).1, newAt_le (HNEW.out y hy).2.1 HBW.out.size, (HNEW.out y hy).2.2⟩, Below.step' HBW.out HB.out⟩
      rw [HX.out, ← HIS.out, List.take_of_length_le (by rw [nrows, List.length_map]; omega)]
end Go.Proofs.YtldlmkfigjicgaaDoor
