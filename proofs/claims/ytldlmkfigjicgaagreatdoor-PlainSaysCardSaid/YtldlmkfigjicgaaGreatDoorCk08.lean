/- Join, Joined, TabC, MeetP, Stab, MeetA, Own, TabR -/
import Derived.Test.YtldlmkfigjicgaaGreatDoorCk07
import Derived.Test.YtldlmkfigjicgaaGreatDoorCk01
/- dot.Join, viewref.Joined. -/
namespace Go.Proofs.YtldlmkfigjicgaaGreatDoor
set_option linter.unusedVariables false
open Go.ChangeShapes Go.WideShapes Go.ChangeAt Go.RowKit

def joinX (a b : Ctx) : Ctx := if twoI a b ≠ 0 then ⟨0, 0, 0, 0, []⟩ else if 400 < (joinC a b).cloud.length then ⟨0, 0, 0, 0, []⟩ else joinC a b
def joinE (a b : Ctx) : Int := if twoI a b ≠ 0 then twoI a b else if 400 < (joinC a b).cloud.length then 2 else 0

abbrev set5 (w : World) (b : Nat) (y0 y1 y2 y3 y4 : Value) : World := ((((w.setCell ⟨b, 0, none⟩ y0).setCell ⟨b, 1, none⟩ y1).setCell ⟨b, 2, none⟩ y2).setCell ⟨b, 3, none⟩ y3).setCell ⟨b, 4, none⟩ y4
theorem Blk.set5 {w : World} {b : Nat} {x0 x1 x2 x3 x4 : Value} {T : TypeId} (h : Blk w b #[x0, x1, x2, x3, x4] T) (y0 y1 y2 y3 y4 : Value) : Blk (set5 w b y0 y1 y2 y3 y4) b #[y0, y1, y2, y3, y4] T :=
  ((((h.set 0 y0).set 1 y1).set 2 y2).set 3 y3).set 4 y4
theorem Row.set5 {w : World} {b lo : Nat} {A : Option Addr} {xs : List Value} (h : Row w w.heap.size A xs) (hn : NewAt lo A) (hb : b < lo) (y0 y1 y2 y3 y4 : Value) : Row (set5 w b y0 y1 y2 y3 y4) (set5 w b y0 y1 y2 y3 y4).heap.size A xs :=
  (((((h.setCell_new hn (a := ⟨b, 0, none⟩) hb y0).setCell_new hn (a := ⟨b, 1, none⟩) hb y1).setCell_new hn (a := ⟨b, 2, none⟩) hb y2).setCell_new hn (a := ⟨b, 3, none⟩) hb y3).setCell_new hn (a := ⟨b, 4, none⟩) hb y4).more (by simp)
theorem Below.set5 {B : Nat} {a w : World} {b : Nat} (h : Below B a w) (hb : B ≤ b) (y0 y1 y2 y3 y4 : Value) : Below B a (set5 w b y0 y1 y2 y3 y4) :=
  ((((h.setCell (p := ⟨b, 0, none⟩) hb y0).setCell (p := ⟨b, 1, none⟩) hb y1).setCell (p := ⟨b, 2, none⟩) hb y2).setCell (p := ⟨b, 3, none⟩) hb y3).setCell (p := ⟨b, 4, none⟩) hb y4

theorem el_dot : Elem Tryz.prog 24 78 2 16 := by
  obtain ⟨i0, hi0, hz0, hz1, hz2⟩ := info_parts info_dot
  exact ⟨Tryz.underlying24, ⟨i0, _, hi0, hz0, hz1, hz2, rfl⟩, by decide⟩

theorem twoI_zero {a b : Ctx} : twoI a b = 0 ↔ checkI a = 0 ∧ checkI b = 0 := by
  unfold twoI
  by_cases h : checkI a = 0 <;> simp [h]

end Go.Proofs.YtldlmkfigjicgaaGreatDoor
/- viewref.Joined. -/
namespace Go.Proofs.YtldlmkfigjicgaaGreatDoor
set_option linter.unusedVariables false
open Go.ChangeShapes Go.WideShapes Go.ChangeAt Go.RowKit

def mxA (a b : Ctx) (i : Nat) : Array Value := #[.int .i64 (if 0 < i then max a.c0 b.c0 else a.c0), .int .i64 (if 1 < i then max a.c1 b.c1 else a.c1), .int .i64 (if 2 < i then max a.c2 b.c2 else a.c2), .int .i64 (if 3 < i then max a.c3 b.c3 else a.c3)]
theorem mx_get (a b : Ctx) (i : Nat) (h : i < 4) : (mxA a b i)[i]? = some (.int .i64 (a.at_ i)) := by
  rcases (by omega : i = 0 ∨ i = 1 ∨ i = 2 ∨ i = 3) with e | e | e | e <;> subst e <;> rfl
theorem mx_set (a b : Ctx) (i : Nat) (h : i < 4) (hc : a.at_ i < b.at_ i) : (mxA a b i).setIfInBounds i (.int .i64 (b.at_ i)) = mxA a b (i + 1) := by
  rcases (by omega : i = 0 ∨ i = 1 ∨ i = 2 ∨ i = 3) with e | e | e | e <;> subst e <;> simp [mxA, Ctx.at_] at * <;> omega
theorem mx_keep (a b : Ctx) (i : Nat) (h : i < 4) (hc : ¬ a.at_ i < b.at_ i) : mxA a b i = mxA a b (i + 1) := by
  rcases (by omega : i = 0 ∨ i = 1 ∨ i = 2 ∨ i = 3) with e | e | e | e <;> subst e <;> simp [mxA, Ctx.at_] at * <;> omega
theorem mx_zero (a b : Ctx) : mxA a b 0 = #[.int .i64 a.c0, .int .i64 a.c1, .int .i64 a.c2, .int .i64 a.c3] := rfl
theorem mx_four (a b : Ctx) : mxA a b 4 = #[.int .i64 (max a.c0 b.c0), .int .i64 (max a.c1 b.c1), .int .i64 (max a.c2 b.c2), .int .i64 (max a.c3 b.c3)] := rfl

end Go.Proofs.YtldlmkfigjicgaaGreatDoor
/- table.Check, viewref.Table. -/
namespace Go.Proofs.YtldlmkfigjicgaaGreatDoor
set_option linter.unusedVariables false
open Go.ChangeShapes Go.WideShapes Go.ChangeAt Go.RowKit

def celOk (c : Ctx) (x : Cel) : Bool := rightB x.d.1 x.d.2 && hasB c x.d && inB x.key 0 49 && (inB x.col 0 2 && inB x.val (-1000) 1000)
def badCel (t : Tab) (i : Nat) : Bool := !celOk t.c (t.cells.getD i ⟨(0, 0), 0, 0, 0⟩) || (decide (0 < i) && !before (t.cells.getD (i - 1) ⟨(0, 0), 0, 0, 0⟩).d (t.cells.getD i ⟨(0, 0), 0, 0, 0⟩).d)
def tabI (t : Tab) : Int := if checkI t.c ≠ 0 then checkI t.c else if 400 < t.cells.length then 2 else if (List.range t.cells.length).any (badCel t) then 5 else 0
theorem tabI_ctx {t : Tab} (h : checkI t.c ≠ 0) : tabI t = checkI t.c := by unfold tabI; rw [if_pos h]
theorem tabI_large {t : Tab} (h : checkI t.c = 0) (h2 : 400 < t.cells.length) : tabI t = 2 := by unfold tabI; rw [if_neg (by simp [h]), if_pos h2]
theorem tabI_form {t : Tab} (h : checkI t.c = 0) (h2 : t.cells.length ≤ 400) {i : Nat} (hi : i < t.cells.length) (hb : badCel t i = true) : tabI t = 5 := by
  unfold tabI
  rw [if_neg (by simp [h]), if_neg (by omega), if_pos (List.any_eq_true.2 ⟨i, List.mem_range.2 hi, hb⟩)]
theorem tabI_ok {t : Tab} (h : checkI t.c = 0) (h2 : t.cells.length ≤ 400) (hg : ∀ i, i < t.cells.length → badCel t i = false) : tabI t = 0 := by
  unfold tabI
  rw [if_neg (by simp [h]), if_neg (by omega), if_neg]
  intro hq
  obtain ⟨i, hi, hb⟩ := List.any_eq_true.1 hq
  rw [hg i (List.mem_range.1 hi)] at hb
  cases hb
theorem badCel_at {t : Tab} {i : Nat} (h : i < t.cells.length) : badCel t i = (!celOk t.c t.cells[i] || (decide (0 < i) && !before (t.cells.getD (i - 1) ⟨(0, 0), 0, 0, 0⟩).d t.cells[i].d)) := by
  unfold badCel
  simp [List.getD, h]

set_option maxRecDepth 100000 in
theorem within_any (n lo hi : Int) (w : World) : Calls Tryz.prog 99 #[.int .i64 n, .int .i64 lo, .int .i64 hi] w fun e w' => e = .returned (.bool (inB n lo hi)) ∧ w = w' := by
  go_enter Tryz.func99, Tryz.ntmps99
  by_cases h1 : lo ≤ n <;> by_cases h2 : n ≤ hi
  all_goals
    go_wp2
    go_ret
    exact ⟨ret_bool (by simp [inB]; omega), rfl⟩
set_option maxRecDepth 100000 in
theorem keyed_any (n : Int) (w : World) : Calls Tryz.prog 76 #[.int .i64 n] w fun e w' => e = .returned (.bool (inB n 0 49)) ∧ w = w' := by
  go_enter Tryz.func76, Tryz.ntmps76
  go_wp2_with (refine (within_any _ _ _ _).mono ?_; rintro e w' ⟨rfl, rfl⟩)
  go_ret
  exact ⟨rfl, rfl⟩
set_option maxRecDepth 100000 in
theorem valued_any (c v : Int) (w : World) : Calls Tryz.prog 77 #[.int .i64 c, .int .i64 v] w fun e w' => e = .returned (.bool (inB c 0 2 && inB v (-1000) 1000)) ∧ w = w' := by
  have H0 := fun w => within_any c 0 2 w
  cases h : inB c 0 2
  all_goals
    rw [h] at H0
    have H := hid H0
    clear H0 h
    go_enter Tryz.func77, Tryz.ntmps77
    go_wp2_with fail
    refine (H.out _).mono ?_
    rintro e w' ⟨rfl, rfl⟩
    go_wp2_with (refine (within_any _ _ _ _).mono ?_; rintro e w' ⟨rfl, rfl⟩)
    go_ret
    exact ⟨ret_bool (by simp), rfl⟩

theorem make_lit1 (d : Int × Int) (A : Option Addr) (k : Nat) (w : World) (hr : Row w w.heap.size A (dcells [d])) : Calls Tryz.prog 74 #[.slice A 1 k] w (CtxErr (makeC [d]) (if rightB d.1 d.2 = true then 0 else 5) w) := by
  have h := make_any [d] A k w hr (by simp)
  have e : makeE [d] = if rightB d.1 d.2 = true then 0 else 5 := by
    unfold makeE
    cases hq : rightB d.1 d.2 <;> simp [hq]
  rw [e] at h
  exact h

theorem celOk_parts {c : Ctx} {x : Cel} (h1 : rightB x.d.1 x.d.2 = true) (h2 : hasB c x.d = true) (h3 : inB x.key 0 49 = true) (h4 : (inB x.col 0 2 && inB x.val (-1000) 1000) = true) : celOk c x = true := by
  unfold celOk; rw [h1, h2, h3, h4]; rfl
theorem celOk_no {c : Ctx} {x : Cel} (h : rightB x.d.1 x.d.2 = false ∨ hasB c x.d = false ∨ inB x.key 0 49 = false ∨ (inB x.col 0 2 && inB x.val (-1000) 1000) = false) : celOk c x = false := by
  unfold celOk
  rcases h with h | h | h | h <;> rw [h] <;> simp

set_option maxHeartbeats 4000000 in
set_option maxRecDepth 100000 in
theorem tcheck_any (t : Tab) (A : Option Addr) (k : Nat) (B : Option Addr) (m : Nat) (w : World) (ra : Row w w.heap.size A (dcells t.c.cloud)) (la : t.c.cloud.length ≤ 9223372036854775807)
    (rb : Row w w.heap.size B (tcells t.cells)) (lb : t.cells.length ≤ 9223372036854775807) :
    Calls Tryz.prog 41 #[tval t A k B m] w fun e w' => e = .returned (.int .i64 (tabI t)) ∧ Below w.heap.size w w' := by
  have HC := hid (fun w1 (hb : Below w.heap.size w w1) => check_any t.c A k w1 (ra.step hb) la)
  have HH := hid (fun w1 (hb : Below w.heap.size w w1) d => has_any t.c d A k w1 (ra.step hb) la)
  have RB := hid (fun w1 (hb : Below w.heap.size w w1) => rb.step hb)
  have HT1 := hid (@tabI_ctx t)
  have HT2 := hid (@tabI_large t)
  have HT3 := hid (@tabI_form t)
  have HT4 := hid (@tabI_ok t)
  have HBA := hid (fun i (h : i < t.cells.length) => badCel_at (t := t) h)
  clear ra rb
  obtain ⟨⟨c0, c1, c2, c3, cl⟩, l⟩ := t
  obtain ⟨c, hc⟩ : ∃ c : Ctx, c = ⟨c0, c1, c2, c3, cl⟩ := ⟨_, rfl⟩
  simp only [tval, cval] at *
  rw [← hc] at HC HH HT1 HT2 HT3 HT4 HBA ⊢
  have HCC := hid hc
  clear hc
  obtain ⟨I, hI⟩ : ∃ I, I = checkI c := ⟨_, rfl⟩
  rw [← hI] at HC HT1 HT2 HT3 HT4
  clear hI
  obtain ⟨R, hR⟩ : ∃ R, R = tabI ⟨c, l⟩ := ⟨_, rfl⟩
  rw [← hR] at HT1 HT2 HT3 HT4 ⊢
  clear hR
  by_cases q : I = 0
  rotate_left
  · have q2 : (I != 0) = true := by simpa using q
    have HR := hid (HT1.out q)
    clear q
    go_enter Tryz.func41, Tryz.ntmps41
    go_wp2_with fail
    refine (HC.out _ (by (repeat' (first | (with_reducible exact Below.refl _ _) | (with_reducible assumption) | (with_reducible refine below_drewN ?_ _) | (with_reducible refine Below.drew ?_) | (with_reducible refine Below.alloc ?_ ?_ _) | (with_reducible refine Below.setCell ?_ ?_ _) | (refine Below.trans ?_ (Below.mono (by assumption) ?_)) | go_size)))).mono ?_
    rintro e w1 ⟨rfl, hb1⟩
    go_wp2
    go_ret
    exact ⟨ret_int HR.out.symm, (by refine Below.step' ?_ hb1; (repeat' (first | (with_reducible exact Below.refl _ _) | (with_reducible assumption) | (with_reducible refine below_drewN ?_ _) | (with_reducible refine Below.drew ?_) | (with_reducible refine Below.alloc ?_ ?_ _) | (with_reducible refine Below.setCell ?_ ?_ _) | (refine Below.trans ?_ (Below.mono (by assumption) ?_)) | go_size)))⟩
  · subst q
    go_enter Tryz.func41, Tryz.ntmps41
    go_wp2_with fail
    refine (HC.out _ (by (repeat' (first | (with_reducible exact Below.refl _ _) | (with_reducible assumption) | (with_reducible refine below_drewN ?_ _) | (with_reducible refine Below.drew ?_) | (with_reducible refine Below.alloc ?_ ?_ _) | (with_reducible refine Below.setCell ?_ ?_ _) | (refine Below.trans ?_ (Below.mono (by assumption) ?_)) | go_size)))).mono ?_
    rintro e w1 ⟨rfl, hb1⟩
    have HBW := hid (show Below w.heap.size w w1 from (by refine Below.step' ?_ hb1; (repeat' (first | (with_reducible exact Below.refl _ _) | (with_reducible assumption) | (with_reducible refine below_drewN ?_ _) | (with_reducible refine Below.drew ?_) | (with_reducible refine Below.alloc ?_ ?_ _) | (with_reducible refine Below.setCell ?_ ?_ _) | (refine Below.trans ?_ (Below.mono (by assumption) ?_)) | go_size))))
    have HXT := hid (Blk.step (Blk.new w #[.int .i64 c0, .int .i64 c1, .int .i64 c2, .int .i64 c3, .slice A cl.length k, .slice B l.length m] 29) hb1)
    clear hb1
    obtain ⟨cHXT, fHXT, sHXT, nHXT⟩ := HXT.out.all
    try simp only [cbox] at cHXT
    by_cases h4 : 400 < l.length
    · have hq : decide ((400 : Int) < (l.length : Int)) = true := by simp; omega
      have HR := hid (HT2.out trivial h4)
      go_wp2
      go_ret
      exact ⟨ret_int HR.out.symm, HBW.out⟩
    · have hq : decide ((400 : Int) < (l.length : Int)) = false := by simp; omega
      go_wp2
      clear cHXT fHXT sHXT nHXT
      go_loopw [21] (fun s21 wr => ∃ i : Nat, i ≤ l.length ∧ s21 = .int .i64 i ∧ (∀ j, j < i → badCel ⟨c, l⟩ j = false) ∧ Below w1.heap.size w1 wr) (fun s21 _ => l.length - (intOf s21).toNat)
      case atStart => exact ⟨0, by omega, rfl, fun j h => absurd h (by omega), Below.refl _ _⟩
      case round =>
        obtain ⟨i, hi, rfl, hno, hbw⟩ := hrel
        have HN := hid hno
        have HB := hid (Below.step' HBW.out hbw)
        have HB1 := hid hbw
        have HXR := hid (HXT.out.step hbw)
        clear hno hbw
        by_cases hlt : i < l.length
        · obtain ⟨b, off, hA, hb, e0, e1, e2, e3, e4⟩ := (RB.out wr HB.out).cel hlt
          subst hA
          have hp : 0 < i → ∃ p : Int × Int, (l.getD (i - 1) ⟨(0, 0), 0, 0, 0⟩).d = p ∧ ∀ w1, Below w.heap.size w w1 → w1.cell? ⟨b, off + (i - 1) * 5, none⟩ = some (.int .i64 p.1) ∧ w1.cell? ⟨b, off + (i - 1) * 5 + 1, none⟩ = some (.int .i64 p.2) := by
            intro hm
            refine ⟨l[i - 1].d, by simp [List.getD, show i - 1 < l.length by omega], fun w1 hb1 => ?_⟩
            obtain ⟨b', off', he, hb', h0', h1', -⟩ := (RB.out w1 hb1).cel (k := i - 1) (by omega)
            injection he with he
            injection he with he1 he2
            subst he1 he2
            exact ⟨h0', h1'⟩
          have HBAD := hid (HBA.out i hlt)
          have HT3i := hid (fun hb => HT3.out trivial (by simpa using h4) (i := i) hlt hb)
          try simp only at HBAD
          generalize l[i] = x at *
          obtain ⟨⟨d0, d1⟩, key, col, val⟩ := x
          simp only at e0 e1 e2 e3 e4
          obtain ⟨cHXR, fHXR, sHXR, nHXR⟩ := HXR.out.all
          try simp only [cbox] at cHXR
          have hneb : (b = wr.heap.size) = False := by simp; omega
          go_wp2_with fail
          refine (make_lit1 (d0, d1) _ _ _ (by exact Row.new' (wr.alloc _) _ _ (by simp) rfl (by simp))).mono ?_
          rintro e w2 ⟨A2, k2, rfl, hr2, hb2, hn2⟩
          have hB2 : Below wr.heap.size wr w2 := (by refine Below.step' ?_ hb2; (repeat' (first | (with_reducible exact Below.refl _ _) | (with_reducible assumption) | (with_reducible refine below_drewN ?_ _) | (with_reducible refine Below.drew ?_) | (with_reducible refine Below.alloc ?_ ?_ _) | (with_reducible refine Below.setCell ?_ ?_ _) | (refine Below.trans ?_ (Below.mono (by assumption) ?_)) | go_size)))
          have HX5 := hid (Blk.thru (B := wr.heap.size + 1 + 1) (w := (wr.alloc (.cells #[.int .i64 d0, .int .i64 d1, .int .i64 key, .int .i64 col, .int .i64 val] 80)).alloc (.cells #[.int .i64 d0, .int .i64 d1] 78)) (b := wr.heap.size) (cs := #[.int .i64 d0, .int .i64 d1, .int .i64 key, .int .i64 col, .int .i64 val]) (T := 80) (by exact (Blk.new wr _ _).alloc _) (by simpa using hb2) (by omega))
          clear cHXR fHXR sHXR nHXR
          replace HXR := hid (HXR.out.step hB2)
          have HB2 := hid (Below.step' HB.out hB2)
          have HB12 := hid (Below.step' HB1.out hB2)
          have hs2 := hB2.size
          clear hb2 hB2 hr2 hn2 e0 e1 e2 e3 e4 hneb hb
          obtain ⟨cHXR, fHXR, sHXR, nHXR⟩ := HXR.out.all
          try simp only [cbox] at cHXR
          obtain ⟨cHX5, fHX5, sHX5, nHX5⟩ := HX5.out.all
          try simp only [cbox] at cHX5
          have hbo : Below w.heap.size w (w2.alloc (.cells (cbox (makeC [(d0, d1)]) A2 k2) 26)) := HB2.out.alloc HB2.out.size _
          have hbo1 : Below w1.heap.size w1 (w2.alloc (.cells (cbox (makeC [(d0, d1)]) A2 k2) 26)) := HB12.out.alloc HB12.out.size _
          have HBO := hid hbo
          have HBO1 := hid hbo1
          clear hbo hbo1
          simp only [cbox] at HBO HBO1
          obtain ⟨K, hK⟩ : ∃ K, K = makeC [(d0, d1)] := ⟨_, rfl⟩
          rw [← hK] at HBO HBO1 ⊢
          clear hK
          simp only [cval]
          cases hright : rightB d0 d1
          · have HR := hid (HT3i.out (by rw [HBAD.out, celOk_no (.inl hright)]; rfl))
            simp only [Bool.false_eq_true, if_false]
            go_wp2
            go_ret
            exact ⟨ret_int HR.out.symm, HBO.out⟩
          · simp only [if_true]
            have hh := fun w1 (hb : Below w.heap.size w w1) => HH.out w1 hb (d0, d1)
            cases hhas : hasB c (d0, d1)
            · have HR := hid (HT3i.out (by rw [HBAD.out, celOk_no (.inr (.inl hhas))]; rfl))
              rw [hhas] at hh
              have HHQ := hid hh
              clear hh
              go_wp2_with fail
              refine (HHQ.out _ HBO.out).mono ?_
              rintro e w3 ⟨rfl, hb3⟩
              go_wp2
              go_ret
              exact ⟨ret_int HR.out.symm, Below.step' HBO.out hb3⟩
            · rw [hhas] at hh
              have HHQ := hid hh
              clear hh
              have hky := fun w => keyed_any key w
              have hva := fun w => valued_any col val w
              cases hkey : inB key 0 49
              · have HR := hid (HT3i.out (by rw [HBAD.out, celOk_no (.inr (.inr (.inl hkey)))]; rfl))
                rw [hkey] at hky
                have HKY := hid hky
                clear hky hva
                go_wp2_with fail
                refine (HHQ.out _ HBO.out).mono ?_
                rintro e w3 ⟨rfl, hb3⟩
                have hB3 : Below w2.heap.size w2 w3 := (by refine Below.step' ?_ hb3; (repeat' (first | (with_reducible exact Below.refl _ _) | (with_reducible assumption) | (with_reducible refine below_drewN ?_ _) | (with_reducible refine Below.drew ?_) | (with_reducible refine Below.alloc ?_ ?_ _) | (with_reducible refine Below.setCell ?_ ?_ _) | (refine Below.trans ?_ (Below.mono (by assumption) ?_)) | go_size)))
                clear cHX5 fHX5 sHX5 nHX5
                replace HX5 := hid (HX5.out.step hB3)
                obtain ⟨cHX5, fHX5, sHX5, nHX5⟩ := HX5.out.all
                try simp only [cbox] at cHX5
                go_wp2_with fail
                refine (HKY.out _).mono ?_
                rintro e w4 ⟨rfl, rfl⟩
                go_wp2
                go_ret
                exact ⟨ret_int HR.out.symm, Below.step' HBO.out hb3⟩
              · cases hval : (inB col 0 2 && inB val (-1000) 1000)
                · have HR := hid (HT3i.out (by rw [HBAD.out, celOk_no (.inr (.inr (.inr hval)))]; rfl))
                  rw [hkey] at hky
                  rw [hval] at hva
                  have HKY := hid hky
                  have HVA := hid hva
                  clear hky hva hkey hval
                  go_wp2_with fail
                  refine (HHQ.out _ HBO.out).mono ?_
                  rintro e w3 ⟨rfl, hb3⟩
                  have hB3 : Below w2.heap.size w2 w3 := (by refine Below.step' ?_ hb3; (repeat' (first | (with_reducible exact Below.refl _ _) | (with_reducible assumption) | (with_reducible refine below_drewN ?_ _) | (with_reducible refine Below.drew ?_) | (with_reducible refine Below.alloc ?_ ?_ _) | (with_reducible refine Below.setCell ?_ ?_ _) | (refine Below.trans ?_ (Below.mono (by assumption) ?_)) | go_size)))
                  clear cHX5 fHX5 sHX5 nHX5
                  replace HX5 := hid (HX5.out.step hB3)
                  obtain ⟨cHX5, fHX5, sHX5, nHX5⟩ := HX5.out.all
                  try simp only [cbox] at cHX5
                  go_wp2_with fail
                  refine (HKY.out _).mono ?_
                  rintro e w4 ⟨rfl, rfl⟩
                  go_wp2_with fail
                  refine (HVA.out _).mono ?_
                  rintro e w4 ⟨rfl, rfl⟩
                  go_wp2
                  go_ret
                  exact ⟨ret_int HR.out.symm, Below.step' HBO.out hb3⟩
                · have hok := celOk_parts (c := c) (x := ⟨(d0, d1), key, col, val⟩) hright hhas hkey hval
                  rw [hkey] at hky
                  rw [hval] at hva
                  have HKY := hid hky
                  have HVA := hid hva
                  have hbad := HBAD.out
                  rw [hok] at hbad
                  have HBD := hid hbad
                  clear hky hva hkey hval hok hbad hright hhas
                  go_wp2_with fail
                  refine (HHQ.out _ HBO.out).mono ?_
                  rintro e w3 ⟨rfl, hb3⟩
                  have hB3 : Below w2.heap.size w2 w3 := (by refine Below.step' ?_ hb3; (repeat' (first | (with_reducible exact Below.refl _ _) | (with_reducible assumption) | (with_reducible refine below_drewN ?_ _) | (with_reducible refine Below.drew ?_) | (with_reducible refine Below.alloc ?_ ?_ _) | (with_reducible refine Below.setCell ?_ ?_ _) | (refine Below.trans ?_ (Below.mono (by assumption) ?_)) | go_size)))
                  clear cHX5 fHX5 sHX5 nHX5
                  clear cHXR fHXR sHXR nHXR
                  replace HX5 := hid (HX5.out.step hB3)
                  replace HXR := hid (HXR.out.step hB3)
                  have HB3 := hid (Below.step' HBO.out hb3)
                  have HB13 := hid (Below.step' HBO1.out hb3)
                  have hs3 := hB3.size
                  clear hb3 hB3
                  obtain ⟨cHX5, fHX5, sHX5, nHX5⟩ := HX5.out.all
                  try simp only [cbox] at cHX5
                  obtain ⟨cHXR, fHXR, sHXR, nHXR⟩ := HXR.out.all
                  try simp only [cbox] at cHXR
                  go_wp2_with fail
                  refine (HKY.out _).mono ?_
                  rintro e w4 ⟨rfl, rfl⟩
                  go_wp2_with fail
                  refine (HVA.out _).mono ?_
                  rintro e w4 ⟨rfl, rfl⟩
                  by_cases hk0 : 0 < i
                  · obtain ⟨⟨p0, p1⟩, hpe, hpc⟩ := hp hk0
                    obtain ⟨g0, g1⟩ := hpc w3 HB3.out
                    have hd : decide ((0 : Int) < (i : Int)) = true := by simp; omega
                    have hd2 : decide (0 < i) = true := by simp; omega
                    simp only at g0 g1
                    clear hp hpc
                    have z1 : IntKind.i64.wrap ((i : Int) - 1) = (i : Int) - 1 := IntWalk.i64_in _ (by omega)
                    have z2 : (1 : Int) ≤ (i : Int) := by omega
                    have z3 : (i : Int) - 1 < (l.length : Int) := by omega
                    have z4 : ((i : Int) - 1).toNat = i - 1 := by omega
                    have hblt : b < w3.heap.size := World.block_lt_of_cell? _ _ g0
                    have hbd := HBD.out
                    rw [hpe, hd2] at hbd
                    simp only [Bool.not_true, Bool.false_or, Bool.true_and] at hbd
                    have HBD2 := hid hbd
                    clear hpe hbd HBD HBAD hd2
                    cases hbf : decide (0 ≤ or2 (cmpI p0 d0) (cmpI p1 d1))
                    · have hbe : before (p0, p1) (d0, d1) = true := by
                        have := cmp_before (p0, p1) (d0, d1)
                        cases hq : before (p0, p1) (d0, d1)
                        · rw [hq] at this; simp only [iff_true] at this; rw [decide_eq_false_iff_not] at hbf; exact absurd this hbf
                        · rfl
                      rw [hbe] at HBD2
                      clear hbe
                      go_wp2
                      refine region_ext (by kernel_rfl) (by kernel_rfl) (fun hext => ?_)
                      repeat (any_goals ((with_reducible refine wpQuiet_step (fun K hK => ?_)); go_simp; first | (with_reducible refine hK _ ?_; clear hK K) | ((with_reducible apply Exists.intro); (with_reducible refine ⟨fun _ => ?_, hK _ ?_⟩); ((go_at_call 78; exact ext_call _ (by simp) (order_ints _ _ _ _ _))); clear hK K) | ((with_reducible refine (if_neg ?_).mpr (hK _ ?_)); (decide); clear hK K) | (split <;> (with_reducible refine hK _ ?_; clear hK K))))
                      all_goals ((with_reducible refine wpQuiet_nil ?_); clear hext; intro w1 hx1; have hb1 := ext_below hx1; clear hx1)
                      go_wp2
                      go_roundw
                      case rel =>
                        refine ⟨i + 1, by omega, by go_num, fun j hj => ?_, Below.step' HB13.out hb1⟩
                        by_cases e : j = i
                        · subst e; exact HBD2.out
                        · exact HN.out j (by omega)
                      case measure => simp [intOf]; omega
                    · have hbe : before (p0, p1) (d0, d1) = false := (cmp_before (p0, p1) (d0, d1)).1 (by simpa using hbf)
                      rw [hbe] at HBD2
                      clear hbe
                      go_wp2
                      refine region_ext (by kernel_rfl) (by kernel_rfl) (fun hext => ?_)
                      repeat (any_goals ((with_reducible refine wpQuiet_step (fun K hK => ?_)); go_simp; first | (with_reducible refine hK _ ?_; clear hK K) | ((with_reducible apply Exists.intro); (with_reducible refine ⟨fun _ => ?_, hK _ ?_⟩); ((go_at_call 78; exact ext_call _ (by simp) (order_ints _ _ _ _ _))); clear hK K) | ((with_reducible refine (if_neg ?_).mpr (hK _ ?_)); (decide); clear hK K) | (split <;> (with_reducible refine hK _ ?_; clear hK K))))
                      all_goals ((with_reducible refine wpQuiet_nil ?_); clear hext; intro w1 hx1; have hb1 := ext_below hx1; clear hx1)
                      go_wp2
                      go_ret
                      exact ⟨ret_int (HT3i.out HBD2.out).symm, Below.step' HB3.out hb1⟩
                  · have hd : decide ((0 : Int) < (i : Int)) = false := by simp; omega
                    have hd2 : decide (0 < i) = false := by simp; omega
                    have hbd := HBD.out
                    rw [hd2] at hbd
                    have HBD2 := hid hbd
                    clear hbd HBD HBAD hd2 hp
                    go_wp2
                    refine region_ext (by kernel_rfl) (by kernel_rfl) (fun hext => ?_)
                    repeat (any_goals ((with_reducible refine wpQuiet_step (fun K hK => ?_)); go_simp; first | (with_reducible refine hK _ ?_; clear hK K) | ((with_reducible apply Exists.intro); (with_reducible refine ⟨fun _ => ?_, hK _ ?_⟩); ((go_at_call 78; exact ext_call _ (by simp) (order_ints _ _ _ _ _))); clear hK K) | ((with_reducible refine (if_neg ?_).mpr (hK _ ?_)); (decide); clear hK K) | (split <;> (with_reducible refine hK _ ?_; clear hK K))))
                    all_goals ((with_reducible refine wpQuiet_nil ?_); clear hext; intro w1 hx1; have hb1 := ext_below hx1; clear hx1)
                    go_wp2
                    go_roundw
                    case rel =>
                      refine ⟨i + 1, by omega, by go_num, fun j hj => ?_, Below.step' HB13.out hb1⟩
                      by_cases e : j = i
                      · subst e; exact HBD2.out
                      · exact HN.out j (by omega)
                    case measure => simp [intOf]; omega
        · have HR := hid (HT4.out trivial (by simpa using h4) (fun j hj => HN.out j (by omega)))
          go_wp2
          go_ret
          exact ⟨ret_int HR.out.symm, HB.out⟩
end Go.Proofs.YtldlmkfigjicgaaGreatDoor
/- Meets of contexts: what all have. No program in sight. -/
namespace Go.Proofs.YtldlmkfigjicgaaGreatDoor
set_option linter.unusedVariables false

/-- What is wrong with the first one that is wrong. -/
def badL : List Ctx → Int
  | [] => 0
  | c :: L => if checkI c ≠ 0 then checkI c else badL L
def minC (m x : Ctx) : Ctx := ⟨min m.c0 x.c0, min m.c1 x.c1, min m.c2 x.c2, min m.c3 x.c3, m.cloud⟩
def minL (L : List Ctx) : Ctx := L.foldl minC { L.headD ⟨0, 0, 0, 0, []⟩ with cloud := [] }
def allB (L : List Ctx) (d : Int × Int) : Bool := L.all (fun c => hasB c d)
def cloudOf (L : List Ctx) (x : Ctx) : List (Int × Int) := x.cloud.filter (allB L)
def cloudAll (L : List Ctx) : List (Int × Int) := L.flatMap (cloudOf L)
def meetC (L : List Ctx) : Ctx := packL (minL L).c0 (minL L).c1 (minL L).c2 (minL L).c3 (cloudAll L)
def meetX (L : List Ctx) : Ctx := if L = [] ∨ badL L ≠ 0 ∨ 400 < (meetC L).cloud.length then ⟨0, 0, 0, 0, []⟩ else meetC L
def meetE (L : List Ctx) : Int := if L = [] then 1 else if badL L ≠ 0 then badL L else if 400 < (meetC L).cloud.length then 2 else 0

theorem badL_zero {L : List Ctx} : badL L = 0 ↔ ∀ c ∈ L, checkI c = 0 := by
  induction L with
  | nil => simp [badL]
  | cons c L ih =>
    unfold badL
    split
    · rename_i h
      constructor
      · intro e; exact absurd e h
      · intro e; exact absurd (e c (by simp)) h
    · rename_i h
      have h : checkI c = 0 := by simpa using h
      rw [ih]
      simp [h]
theorem badL_take {L : List Ctx} {i : Nat} (h : i < L.length) (h0 : ∀ c ∈ L.take i, checkI c = 0) (h1 : checkI L[i] ≠ 0) : badL L = checkI L[i] := by
  induction L generalizing i with
  | nil => simp at h
  | cons c L ih =>
    cases i with
    | zero => unfold badL; simp at h1; simp [h1]
    | succ i =>
      have h2 : checkI c = 0 := h0 c (by simp)
      unfold badL
      rw [if_neg (by simp [h2])]
      simp only [List.getElem_cons_succ] at h1 ⊢
      exact ih (by simpa using h) (fun x hx => h0 x (by simp [hx])) h1

theorem at_minC (m x : Ctx) (n : Int) : (minC m x).at_ n = min (m.at_ n) (x.at_ n) := by
  unfold minC Ctx.at_
  simp only
  split
  · rfl
  · split
    · rfl
    · split <;> rfl
theorem minL_fold (n : Int) : ∀ (L : List Ctx) (m : Ctx), (L.foldl minC m).at_ n ≤ m.at_ n ∧ (∀ c ∈ L, (L.foldl minC m).at_ n ≤ c.at_ n) ∧ ((L.foldl minC m).at_ n = m.at_ n ∨ ∃ c ∈ L, (L.foldl minC m).at_ n = c.at_ n)
  | [], m => by simp
  | c :: L, m => by
    obtain ⟨h1, h2, h3⟩ := minL_fold n L (minC m c)
    rw [List.foldl_cons]
    rw [at_minC] at h1 h3
    refine ⟨by omega, ?_, ?_⟩
    · intro x hx
      rcases List.mem_cons.1 hx with rfl | hx
      · omega
      · exact h2 x hx
    · rcases h3 with h3 | ⟨x, hx, h3⟩
      · by_cases h4 : m.at_ n ≤ c.at_ n
        · left; omega
        · right; exact ⟨c, by simp, by omega⟩
      · right; exact ⟨x, by simp [hx], h3⟩
theorem minL_at {L : List Ctx} (hL : L ≠ []) (n : Int) : (∀ c ∈ L, (minL L).at_ n ≤ c.at_ n) ∧ ∃ c ∈ L, (minL L).at_ n = c.at_ n := by
  obtain ⟨h1, h2, h3⟩ := minL_fold n L { L.headD ⟨0, 0, 0, 0, []⟩ with cloud := [] }
  refine ⟨h2, ?_⟩
  rcases h3 with h3 | h3
  · cases L with
    | nil => exact absurd rfl hL
    | cons c L => exact ⟨c, by simp, h3⟩
  · exact h3
theorem minL_cloud (L : List Ctx) : (minL L).cloud = [] := by
  unfold minL
  have h : ∀ (L : List Ctx) (m : Ctx), (L.foldl minC m).cloud = m.cloud := by
    intro L
    induction L with
    | nil => simp
    | cons c L ih => intro m; rw [List.foldl_cons, ih]; rfl
  rw [h]
theorem minL_eta (L : List Ctx) : minL L = ⟨(minL L).c0, (minL L).c1, (minL L).c2, (minL L).c3, []⟩ := by
  have h := minL_cloud L
  generalize minL L = m at *
  obtain ⟨a, b, c, d, e⟩ := m
  simp only at h
  rw [h]
theorem minL_in {L : List Ctx} (hL : L ≠ []) (h : ∀ c ∈ L, clkIn c) : clkIn (minL L) := by
  have hb : ∀ n, 0 ≤ (minL L).at_ n ∧ (minL L).at_ n ≤ 1099511627776 := by
    intro n
    obtain ⟨-, c, hc, e⟩ := minL_at hL n
    rw [e]
    exact at_in (h c hc) n
  have h0 := hb 0
  have h1 := hb 1
  have h2 := hb 2
  have h3 := hb 3
  simp [Ctx.at_] at h0 h1 h2 h3
  exact ⟨h0, h1, h2, h3⟩
theorem allB_iff {L : List Ctx} {d : Int × Int} : allB L d = true ↔ ∀ c ∈ L, hasB c d = true := by simp [allB]
theorem cloudAll_mem {L : List Ctx} {d : Int × Int} : d ∈ cloudAll L ↔ (∃ c ∈ L, d ∈ c.cloud) ∧ allB L d = true := by
  unfold cloudAll cloudOf
  simp only [List.mem_flatMap, List.mem_filter]
  constructor
  · rintro ⟨c, h1, h2, h3⟩; exact ⟨⟨c, h1, h2⟩, h3⟩
  · rintro ⟨⟨c, h1, h2⟩, h3⟩; exact ⟨c, h1, h2, h3⟩
/-- Whatever list has the dots of the clouds that all have: packed, it is what all have. -/
theorem meet_pack {L : List Ctx} (hL : L ≠ []) (hok : ∀ c ∈ L, okC c) {D : List (Int × Int)} (hD : ∀ d, d ∈ D ↔ d ∈ cloudAll L) :
    okC (packL (minL L).c0 (minL L).c1 (minL L).c2 (minL L).c3 D) ∧ ∀ d, hasB (packL (minL L).c0 (minL L).c1 (minL L).c2 (minL L).c3 D) d = true ↔ ∀ c ∈ L, hasB c d = true := by
  have hin := minL_in hL (fun c hc => (hok c hc).1)
  rw [minL_eta] at hin
  obtain ⟨h1, h2⟩ := pack_ok (l := D) hin (fun d hd => by
    obtain ⟨⟨c, hc, h⟩, -⟩ := cloudAll_mem.1 ((hD d).1 hd)
    exact ((hok c hc).2.1 d h).1)
  refine ⟨h1, fun d => ?_⟩
  rw [h2, ← minL_eta, hD, cloudAll_mem, allB_iff]
  constructor
  · rintro (h | ⟨-, h⟩)
    · intro c hc
      rcases hasB_iff.1 h with ⟨a1, a2, a3, a4⟩ | h
      · exact hasB_iff.2 (.inl ⟨a1, a2, a3, Int.le_trans a4 ((minL_at hL d.1).1 c hc)⟩)
      · rw [minL_cloud] at h; simp at h
    · exact h
  · intro h
    obtain ⟨hle, c, hc, e⟩ := minL_at hL d.1
    rcases hasB_iff.1 (h c hc) with ⟨a1, a2, a3, a4⟩ | h'
    · exact .inl (hasB_iff.2 (.inl ⟨a1, a2, a3, by rw [e]; exact a4⟩))
    · exact .inr ⟨⟨c, hc, h'⟩, h⟩
theorem meet_ok {L : List Ctx} (hL : L ≠ []) (hok : ∀ c ∈ L, okC c) : okC (meetC L) ∧ ∀ d, hasB (meetC L) d = true ↔ ∀ c ∈ L, hasB c d = true := meet_pack hL hok (fun d => Iff.rfl)
theorem meet_same {L : List Ctx} (hL : L ≠ []) (hok : ∀ c ∈ L, okC c) {D : List (Int × Int)} (hD : ∀ d, d ∈ D ↔ d ∈ cloudAll L) :
    packL (minL L).c0 (minL L).c1 (minL L).c2 (minL L).c3 D = meetC L := by
  obtain ⟨h1, h2⟩ := meet_pack hL hok hD
  obtain ⟨h3, h4⟩ := meet_ok hL hok
  exact okC_ext h1 h3 fun d => by rw [Bool.eq_iff_iff, h2, h4]

/-- Once each. -/
def addD (D : List (Int × Int)) (d : Int × Int) : List (Int × Int) := if d ∈ D then D else D ++ [d]
def onceD (l : List (Int × Int)) : List (Int × Int) := l.foldl addD []
theorem addD_mem {D : List (Int × Int)} {d x : Int × Int} : x ∈ addD D d ↔ x ∈ D ∨ x = d := by
  unfold addD
  split
  · rename_i h
    constructor
    · exact .inl
    · rintro (h1 | rfl)
      · exact h1
      · exact h
  · simp
theorem addD_nodup {D : List (Int × Int)} {d : Int × Int} (h : D.Nodup) : (addD D d).Nodup := by
  unfold addD
  split
  · exact h
  · rename_i h1
    rw [List.nodup_append]
    refine ⟨h, by simp, ?_⟩
    intro a ha b hb
    simp only [List.mem_singleton] at hb
    subst hb
    rintro rfl
    exact h1 ha
theorem fold_addD : ∀ (l D : List (Int × Int)), D.Nodup → (l.foldl addD D).Nodup ∧ ∀ x, x ∈ l.foldl addD D ↔ x ∈ D ∨ x ∈ l
  | [], D, h => ⟨h, fun x => by simp⟩
  | d :: l, D, h => by
    obtain ⟨h1, h2⟩ := fold_addD l (addD D d) (addD_nodup h)
    refine ⟨h1, fun x => ?_⟩
    rw [List.foldl_cons, h2, addD_mem]
    simp [or_assoc]
theorem onceD_ok (l : List (Int × Int)) : (onceD l).Nodup ∧ ∀ x, x ∈ onceD l ↔ x ∈ l := by
  obtain ⟨h1, h2⟩ := fold_addD l [] (by simp)
  exact ⟨h1, fun x => by rw [onceD, h2]; simp⟩
theorem addD_len (D : List (Int × Int)) (d : Int × Int) : D.length ≤ (addD D d).length := by unfold addD; split <;> simp
/-- What all have beyond their clocks, each once, lies in the clouds of four. -/
theorem once_len {L : List Ctx} (hL : L ≠ []) (hok : ∀ c ∈ L, okC c) (h4 : ∀ c ∈ L, c.cloud.length ≤ 400) {D : List (Int × Int)} (hn : D.Nodup) (hD : ∀ d ∈ D, d ∈ cloudAll L) : D.length ≤ 1600 := by
  obtain ⟨-, x0, hx0, e0⟩ := minL_at hL 0
  obtain ⟨-, x1, hx1, e1⟩ := minL_at hL 1
  obtain ⟨-, x2, hx2, e2⟩ := minL_at hL 2
  obtain ⟨-, x3, hx3, e3⟩ := minL_at hL 3
  have hsub : D ⊆ x0.cloud ++ (x1.cloud ++ (x2.cloud ++ x3.cloud)) := by
    intro d hd
    obtain ⟨⟨c, hc, hdc⟩, ha⟩ := cloudAll_mem.1 (hD d hd)
    rw [allB_iff] at ha
    obtain ⟨hr, hs⟩ := (hok c hc).2.1 d hdc
    have hr := right_iff.1 hr
    have hm := (minL_at hL d.1).1 c hc
    have key : ∀ x ∈ L, (minL L).at_ d.1 = x.at_ d.1 → d ∈ x.cloud := by
      intro x hx e
      rcases hasB_iff.1 (ha x hx) with ⟨-, -, -, h⟩ | h
      · omega
      · exact h
    rcases (by omega : d.1 = 0 ∨ d.1 = 1 ∨ d.1 = 2 ∨ d.1 = 3) with h | h | h | h
    · have := key x0 hx0 (by rw [h]; exact e0); simp [this]
    · have := key x1 hx1 (by rw [h]; exact e1); simp [this]
    · have := key x2 hx2 (by rw [h]; exact e2); simp [this]
    · have := key x3 hx3 (by rw [h]; exact e3); simp [this]
  have h := hn.length_le_of_subset hsub
  simp only [List.length_append] at h
  have := h4 x0 hx0
  have := h4 x1 hx1
  have := h4 x2 hx2
  have := h4 x3 hx3
  omega
theorem cloudAll_len {L : List Ctx} {n : Nat} (h4 : ∀ c ∈ L, c.cloud.length ≤ 400) : (cloudAll L).length ≤ 400 * L.length := by
  have h : ∀ (M : List Ctx), (∀ c ∈ M, c.cloud.length ≤ 400) → (M.flatMap (cloudOf L)).length ≤ 400 * M.length := by
    intro M
    induction M with
    | nil => simp
    | cons c M ih =>
      intro hM
      have h1 := ih (fun x hx => hM x (by simp [hx]))
      have h2 := hM c (by simp)
      have h3 : (cloudOf L c).length ≤ c.cloud.length := List.length_filter_le _ _
      simp only [List.flatMap_cons, List.length_append, List.length_cons]
      omega
  exact h L h4
theorem meetC_len {L : List Ctx} (hL : L ≠ []) (hok : ∀ c ∈ L, okC c) (h4 : ∀ c ∈ L, c.cloud.length ≤ 400) : (meetC L).cloud.length ≤ 1600 := by
  rw [← meet_same hL hok (onceD_ok (cloudAll L)).2]
  exact Nat.le_trans pack_length (once_len hL hok h4 (onceD_ok _).1 (fun d hd => ((onceD_ok _).2 d).1 hd))
end Go.Proofs.YtldlmkfigjicgaaGreatDoor
/- slices.IndexFunc, ContainsFunc at Context; stable.all and its predicate. -/
namespace Go.Proofs.YtldlmkfigjicgaaGreatDoor
set_option linter.unusedVariables false
open Go.ChangeShapes Go.WideShapes Go.ChangeAt Go.RowKit

def PredC (g : Nat) (caps : Array Value) (p : Ctx → Bool) (L : List CR) (w : World) : Prop :=
  ∀ w', Below w.heap.size w w' → ∀ x ∈ L, Calls Tryz.prog g (#[cval x.c x.A x.k] ++ caps) w' fun e w'' => e = .returned (.bool (p x.c)) ∧ Below w'.heap.size w' w''

theorem not_anyC (L : List Ctx) (f : Ctx → Bool) : (!L.any (fun d => !f d)) = L.all f := by
  induction L with
  | nil => rfl
  | cons x l ih => simp only [List.any_cons, List.all_cons, ← ih]; cases f x <;> simp

end Go.Proofs.YtldlmkfigjicgaaGreatDoor
/- stable.Meet: no context, a wrong one. -/
namespace Go.Proofs.YtldlmkfigjicgaaGreatDoor
set_option linter.unusedVariables false
open Go.ChangeShapes Go.WideShapes Go.ChangeAt Go.RowKit

theorem gb_below {w0 w w' : World} {row : Option Nat} (h : w0.grownBy w row) (hb : Below w.heap.size w w') : w0.grownBy w' row :=
  grown_trans h ⟨hb.os, hb.tape, hb.output, hb.size, fun k hk _ => hb.block k hk⟩
theorem gb_set {w0 w : World} {P : Nat} (h : w0.grownBy w (some P)) (i : Nat) (v : Value) : w0.grownBy (w.setCell ⟨P, i, none⟩ v) (some P) :=
  grown_trans h ⟨rfl, rfl, rfl, by simp, fun k hk hne => Below.heap_setCell w ⟨P, i, none⟩ v k (by intro e; exact hne (by rw [e]))⟩
theorem gb_own {w0 w w' : World} {P : Nat} {row : Option Nat} (h : w0.grownBy w (some P)) (hg : w.grownBy w' row) (hr : ∀ g, row = some g → w0.heap.size ≤ g) : w0.grownBy w' (some P) :=
  ⟨hg.os.trans h.os, hg.tape.trans h.tape, hg.output.trans h.output, Nat.le_trans h.size hg.size, fun k hk hne => (hg.block k (Nat.lt_of_lt_of_le hk h.size) (fun e => by have := hr k e.symm; omega)).trans (h.block k hk hne)⟩
theorem gb_to {w0 w' : World} {P B : Nat} (h : w0.grownBy w' (some P)) (hB : B ≤ P) (hB2 : B ≤ w0.heap.size) : Below B w0 w' :=
  ⟨h.os, h.tape, h.output, h.size, fun k hk => h.block k (by omega) (by intro e; injection e with e; omega)⟩
theorem gb_blk {w0 w' : World} {P b : Nat} {cs : Array Value} {T : TypeId} (h : w0.grownBy w' (some P)) (hx : Blk w0 b cs T) (hne : b ≠ P) : Blk w' b cs T :=
  hx.grown h (by intro e; injection e with e; exact hne e)

theorem ctxs_get (L : List CR) (i : Nat) (h : i < L.length) : (CR.ctxs L)[i]'(by simpa using h) = L[i].c := by simp

end Go.Proofs.YtldlmkfigjicgaaGreatDoor
/- Owned rows of whatever size; words for a list of cells that a call makes. No program in sight. -/
namespace Go.Proofs.YtldlmkfigjicgaaGreatDoor
set_option linter.unusedVariables false
open Go.RowKit

/-- A list of cells, each of a row of its own make, and an error. -/
def CelsErr (l : List Cel) (x : Int) (w : World) (e : Ending) (w' : World) : Prop :=
  ∃ v, e = .returned (.tuple #[v, .int .i64 x]) ∧ w'.ownsRow w.heap.size 80 5 v l.length (tcells l) ∧ Below w.heap.size w w'
theorem info_cel : (Tryz.prog.info? 80).map (fun i => (i.zero, i.size, i.bytes)) = some (some (.agg #[.int .i64 0, .int .i64 0, .int .i64 0, .int .i64 0, .int .i64 0]), 5, 40) := by kernel_rfl
theorem newsT (w : World) (x : Cel) (T : TypeId) (H : Nat) (hH : w.heap.size = H) : ∀ j u, (tcells [x])[j]? = some u → (w.alloc (.cells #[.int .i64 x.d.1, .int .i64 x.d.2, .int .i64 x.key, .int .i64 x.col, .int .i64 x.val] T)).cell? ((⟨H, 0, none⟩ : Addr).add j) = some u := by
  intro j u hu
  subst hH
  rw [add_none, Nat.zero_add, cell_of_row _ _ j _ _ _ (heap_alloc_new w _)]
  simpa using hu
theorem tcells_snoc (l : List Cel) (x : Cel) : tcells (l ++ [x]) = tcells l ++ tcells [x] := by simp [tcells]
end Go.Proofs.YtldlmkfigjicgaaGreatDoor
/- viewref.Table. -/
namespace Go.Proofs.YtldlmkfigjicgaaGreatDoor
set_option linter.unusedVariables false
open Go.ChangeShapes Go.WideShapes Go.ChangeAt Go.RowKit

set_option maxHeartbeats 4000000 in
set_option maxRecDepth 100000 in
theorem rtable_any (t : Tab) (A : Option Addr) (k : Nat) (B : Option Addr) (m : Nat) (w : World) (ra : Row w w.heap.size A (dcells t.c.cloud)) (la : t.c.cloud.length ≤ 9223372036854775807)
    (rb : Row w w.heap.size B (tcells t.cells)) (lb : t.cells.length ≤ 9223372036854775807) :
    Calls Tryz.prog 14 #[tval t A k B m] w fun e w' => e = .returned (.int .i64 (tabI t)) ∧ Below w.heap.size w w' := by
  have HC := hid (fun w1 (hb : Below w.heap.size w w1) => context_any t.c A k w1 (ra.step hb) la)
  have HH := hid (fun w1 (hb : Below w.heap.size w w1) d => Rhas_any t.c d A k w1 (ra.step hb) la)
  have RB := hid (fun w1 (hb : Below w.heap.size w w1) => rb.step hb)
  have HT1 := hid (@tabI_ctx t)
  have HT2 := hid (@tabI_large t)
  have HT3 := hid (@tabI_form t)
  have HT4 := hid (@tabI_ok t)
  have HBA := hid (fun i (h : i < t.cells.length) => badCel_at (t := t) h)
  clear ra rb
  obtain ⟨⟨c0, c1, c2, c3, cl⟩, l⟩ := t
  obtain ⟨c, hc⟩ : ∃ c : Ctx, c = ⟨c0, c1, c2, c3, cl⟩ := ⟨_, rfl⟩
  simp only [tval, cval] at *
  rw [← hc] at HC HH HT1 HT2 HT3 HT4 HBA ⊢
  have HCC := hid hc
  clear hc
  obtain ⟨I, hI⟩ : ∃ I, I = checkI c := ⟨_, rfl⟩
  rw [← hI] at HC HT1 HT2 HT3 HT4
  clear hI
  obtain ⟨R, hR⟩ : ∃ R, R = tabI ⟨c, l⟩ := ⟨_, rfl⟩
  rw [← hR] at HT1 HT2 HT3 HT4 ⊢
  clear hR
  by_cases q : I = 0
  rotate_left
  · have q2 : (I != 0) = true := by simpa using q
    have HR := hid (HT1.out q)
    clear q
    go_enter Tryz.func14, Tryz.ntmps14
    go_wp2_with fail
    refine (HC.out _ (by (repeat' (first | (with_reducible exact Below.refl _ _) | (with_reducible assumption) | (with_reducible refine below_drewN ?_ _) | (with_reducible refine Below.drew ?_) | (with_reducible refine Below.alloc ?_ ?_ _) | (with_reducible refine Below.setCell ?_ ?_ _) | (refine Below.trans ?_ (Below.mono (by assumption) ?_)) | go_size)))).mono ?_
    rintro e w1 ⟨rfl, hb1⟩
    go_wp2
    go_ret
    exact ⟨ret_int HR.out.symm, (by refine Below.step' ?_ hb1; (repeat' (first | (with_reducible exact Below.refl _ _) | (with_reducible assumption) | (with_reducible refine below_drewN ?_ _) | (with_reducible refine Below.drew ?_) | (with_reducible refine Below.alloc ?_ ?_ _) | (with_reducible refine Below.setCell ?_ ?_ _) | (refine Below.trans ?_ (Below.mono (by assumption) ?_)) | go_size)))⟩
  · subst q
    go_enter Tryz.func14, Tryz.ntmps14
    go_wp2_with fail
    refine (HC.out _ (by (repeat' (first | (with_reducible exact Below.refl _ _) | (with_reducible assumption) | (with_reducible refine below_drewN ?_ _) | (with_reducible refine Below.drew ?_) | (with_reducible refine Below.alloc ?_ ?_ _) | (with_reducible refine Below.setCell ?_ ?_ _) | (refine Below.trans ?_ (Below.mono (by assumption) ?_)) | go_size)))).mono ?_
    rintro e w1 ⟨rfl, hb1⟩
    have HBW := hid (show Below w.heap.size w w1 from (by refine Below.step' ?_ hb1; (repeat' (first | (with_reducible exact Below.refl _ _) | (with_reducible assumption) | (with_reducible refine below_drewN ?_ _) | (with_reducible refine Below.drew ?_) | (with_reducible refine Below.alloc ?_ ?_ _) | (with_reducible refine Below.setCell ?_ ?_ _) | (refine Below.trans ?_ (Below.mono (by assumption) ?_)) | go_size))))
    have HXT := hid (Blk.step (Blk.new w #[.int .i64 c0, .int .i64 c1, .int .i64 c2, .int .i64 c3, .slice A cl.length k, .slice B l.length m] 29) hb1)
    clear hb1
    obtain ⟨cHXT, fHXT, sHXT, nHXT⟩ := HXT.out.all
    try simp only [cbox] at cHXT
    by_cases h4 : 400 < l.length
    · have hq : decide ((400 : Int) < (l.length : Int)) = true := by simp; omega
      have HR := hid (HT2.out trivial h4)
      go_wp2
      go_ret
      exact ⟨ret_int HR.out.symm, HBW.out⟩
    · have hq : decide ((400 : Int) < (l.length : Int)) = false := by simp; omega
      go_wp2
      clear cHXT fHXT sHXT nHXT
      go_loopw [4] (fun s4 wr => ∃ i : Nat, i ≤ l.length ∧ s4 = .int .i64 i ∧ (∀ j, j < i → badCel ⟨c, l⟩ j = false) ∧ Below w1.heap.size w1 wr) (fun s4 _ => l.length - (intOf s4).toNat)
      case atStart => exact ⟨0, by omega, rfl, fun j h => absurd h (by omega), Below.refl _ _⟩
      case round =>
        obtain ⟨i, hi, rfl, hno, hbw⟩ := hrel
        have HN := hid hno
        have HB := hid (Below.step' HBW.out hbw)
        have HB1 := hid hbw
        have HXR := hid (HXT.out.step hbw)
        clear hno hbw
        by_cases hlt : i < l.length
        · obtain ⟨b, off, hA, hb, e0, e1, e2, e3, e4⟩ := (RB.out wr HB.out).cel hlt
          subst hA
          have hp : 0 < i → ∃ p : Int × Int, (l.getD (i - 1) ⟨(0, 0), 0, 0, 0⟩).d = p ∧ ∀ w1, Below w.heap.size w w1 → w1.cell? ⟨b, off + (i - 1) * 5, none⟩ = some (.int .i64 p.1) ∧ w1.cell? ⟨b, off + (i - 1) * 5 + 1, none⟩ = some (.int .i64 p.2) := by
            intro hm
            refine ⟨l[i - 1].d, by simp [List.getD, show i - 1 < l.length by omega], fun w1 hb1 => ?_⟩
            obtain ⟨b', off', he, hb', h0', h1', -⟩ := (RB.out w1 hb1).cel (k := i - 1) (by omega)
            injection he with he
            injection he with he1 he2
            subst he1 he2
            exact ⟨h0', h1'⟩
          have HBAD := hid (HBA.out i hlt)
          have HT3i := hid (fun hb => HT3.out trivial (by simpa using h4) (i := i) hlt hb)
          try simp only at HBAD
          generalize l[i] = x at *
          obtain ⟨⟨d0, d1⟩, key, col, val⟩ := x
          simp only at e0 e1 e2 e3 e4
          obtain ⟨cHXR, fHXR, sHXR, nHXR⟩ := HXR.out.all
          try simp only [cbox] at cHXR
          have hneb : (b = wr.heap.size) = False := by simp; omega
          have HX5 := hid (Blk.new wr #[.int .i64 d0, .int .i64 d1, .int .i64 key, .int .i64 col, .int .i64 val] 80)
          have HB2 := hid HB.out
          have HB12 := hid HB1.out
          have hrr := fun w => Rright_any d0 d1 w
          cases hright : rightB d0 d1
          · have HR := hid (HT3i.out (by rw [HBAD.out, celOk_no (.inl hright)]; rfl))
            rw [hright] at hrr
            have HRR := hid hrr
            clear hrr
            go_wp2_with fail
            refine (HRR.out _).mono ?_
            rintro e w2 ⟨rfl, hb2⟩
            go_wp2
            go_ret
            exact ⟨ret_int HR.out.symm, by refine Below.step' (HB.out.alloc HB.out.size _) hb2⟩
          · rw [hright] at hrr
            have HRR := hid hrr
            clear hrr
            go_wp2_with fail
            refine (HRR.out _).mono ?_
            rintro e w2 ⟨rfl, hb2⟩
            have hB2 : Below wr.heap.size wr w2 := (by refine Below.step' ?_ hb2; (repeat' (first | (with_reducible exact Below.refl _ _) | (with_reducible assumption) | (with_reducible refine below_drewN ?_ _) | (with_reducible refine Below.drew ?_) | (with_reducible refine Below.alloc ?_ ?_ _) | (with_reducible refine Below.setCell ?_ ?_ _) | (refine Below.trans ?_ (Below.mono (by assumption) ?_)) | go_size)))
            replace HX5 := hid (HX5.out.step hb2)
            clear cHXR fHXR sHXR nHXR
            replace HXR := hid (HXR.out.step hB2)
            have HBO := hid (Below.step' HB.out hB2)
            have HBO1 := hid (Below.step' HB1.out hB2)
            have hs2 := hB2.size
            clear hb2 hB2 e0 e1 e2 e3 e4 hneb hb
            obtain ⟨cHXR, fHXR, sHXR, nHXR⟩ := HXR.out.all
            try simp only [cbox] at cHXR
            obtain ⟨cHX5, fHX5, sHX5, nHX5⟩ := HX5.out.all
            try simp only [cbox] at cHX5
            have hh := fun w1 (hb : Below w.heap.size w w1) => HH.out w1 hb (d0, d1)
            cases hhas : hasB c (d0, d1)
            · have HR := hid (HT3i.out (by rw [HBAD.out, celOk_no (.inr (.inl hhas))]; rfl))
              rw [hhas] at hh
              have HHQ := hid hh
              clear hh
              go_wp2_with fail
              refine (HHQ.out _ HBO.out).mono ?_
              rintro e w3 ⟨rfl, hb3⟩
              go_wp2
              go_ret
              exact ⟨ret_int HR.out.symm, Below.step' HBO.out hb3⟩
            · rw [hhas] at hh
              have HHQ := hid hh
              clear hh
              have hky := fun w => in_any key 0 49 w
              have hco := fun w => in_any col 0 2 w
              have hva := fun w => in_any val (-1000) 1000 w
              cases hkey : inB key 0 49
              · have HR := hid (HT3i.out (by rw [HBAD.out, celOk_no (.inr (.inr (.inl hkey)))]; rfl))
                rw [hkey] at hky
                have HKY := hid hky
                clear hky hva hco
                go_wp2_with fail
                refine (HHQ.out _ HBO.out).mono ?_
                rintro e w3 ⟨rfl, hb3⟩
                have hB3 : Below w2.heap.size w2 w3 := (by refine Below.step' ?_ hb3; (repeat' (first | (with_reducible exact Below.refl _ _) | (with_reducible assumption) | (with_reducible refine below_drewN ?_ _) | (with_reducible refine Below.drew ?_) | (with_reducible refine Below.alloc ?_ ?_ _) | (with_reducible refine Below.setCell ?_ ?_ _) | (refine Below.trans ?_ (Below.mono (by assumption) ?_)) | go_size)))
                clear cHX5 fHX5 sHX5 nHX5
                replace HX5 := hid (HX5.out.step hB3)
                obtain ⟨cHX5, fHX5, sHX5, nHX5⟩ := HX5.out.all
                try simp only [cbox] at cHX5
                go_wp2_with fail
                refine (HKY.out _).mono ?_
                rintro e w4 ⟨rfl, rfl⟩
                go_wp2
                go_ret
                exact ⟨ret_int HR.out.symm, Below.step' HBO.out hb3⟩
              · cases hcol : inB col 0 2
                · have HR := hid (HT3i.out (by rw [HBAD.out, celOk_no (.inr (.inr (.inr (by rw [hcol]; rfl))))]; rfl))
                  rw [hkey] at hky
                  rw [hcol] at hco
                  have HKY := hid hky
                  have HVA := hid hco
                  clear hky hva hco hkey hcol
                  go_wp2_with fail
                  refine (HHQ.out _ HBO.out).mono ?_
                  rintro e w3 ⟨rfl, hb3⟩
                  have hB3 : Below w2.heap.size w2 w3 := (by refine Below.step' ?_ hb3; (repeat' (first | (with_reducible exact Below.refl _ _) | (with_reducible assumption) | (with_reducible refine below_drewN ?_ _) | (with_reducible refine Below.drew ?_) | (with_reducible refine Below.alloc ?_ ?_ _) | (with_reducible refine Below.setCell ?_ ?_ _) | (refine Below.trans ?_ (Below.mono (by assumption) ?_)) | go_size)))
                  clear cHX5 fHX5 sHX5 nHX5
                  replace HX5 := hid (HX5.out.step hB3)
                  obtain ⟨cHX5, fHX5, sHX5, nHX5⟩ := HX5.out.all
                  try simp only [cbox] at cHX5
                  go_wp2_with fail
                  refine (HKY.out _).mono ?_
                  rintro e w4 ⟨rfl, rfl⟩
                  go_wp2_with fail
                  refine (HVA.out _).mono ?_
                  rintro e w4 ⟨rfl, rfl⟩
                  go_wp2
                  go_ret
                  exact ⟨ret_int HR.out.symm, Below.step' HBO.out hb3⟩
                · cases hval : inB val (-1000) 1000
                  · have HR := hid (HT3i.out (by rw [HBAD.out, celOk_no (.inr (.inr (.inr (by rw [hcol, hval]; rfl))))]; rfl))
                    rw [hkey] at hky
                    rw [hcol] at hco
                    rw [hval] at hva
                    have HKY := hid hky
                    have HVA := hid hva
                    have HCO := hid hco
                    clear hky hva hco hkey hval hcol
                    go_wp2_with fail
                    refine (HHQ.out _ HBO.out).mono ?_
                    rintro e w3 ⟨rfl, hb3⟩
                    have hB3 : Below w2.heap.size w2 w3 := (by refine Below.step' ?_ hb3; (repeat' (first | (with_reducible exact Below.refl _ _) | (with_reducible assumption) | (with_reducible refine below_drewN ?_ _) | (with_reducible refine Below.drew ?_) | (with_reducible refine Below.alloc ?_ ?_ _) | (with_reducible refine Below.setCell ?_ ?_ _) | (refine Below.trans ?_ (Below.mono (by assumption) ?_)) | go_size)))
                    clear cHX5 fHX5 sHX5 nHX5
                    replace HX5 := hid (HX5.out.step hB3)
                    obtain ⟨cHX5, fHX5, sHX5, nHX5⟩ := HX5.out.all
                    try simp only [cbox] at cHX5
                    go_wp2_with fail
                    refine (HKY.out _).mono ?_
                    rintro e w4 ⟨rfl, rfl⟩
                    go_wp2_with fail
                    refine (HCO.out _).mono ?_
                    rintro e w4 ⟨rfl, rfl⟩
                    go_wp2_with fail
                    refine (HVA.out _).mono ?_
                    rintro e w4 ⟨rfl, rfl⟩
                    go_wp2
                    go_ret
                    exact ⟨ret_int HR.out.symm, Below.step' HBO.out hb3⟩
                  · have hok := celOk_parts (c := c) (x := ⟨(d0, d1), key, col, val⟩) hright hhas hkey (by rw [hcol, hval]; rfl)
                    rw [hkey] at hky
                    rw [hcol] at hco
                    rw [hval] at hva
                    have HKY := hid hky
                    have HVA := hid hva
                    have HCO := hid hco
                    have hbad := HBAD.out
                    rw [hok] at hbad
                    have HBD := hid hbad
                    clear hky hva hco hkey hval hcol hok hbad hright hhas
                    go_wp2_with fail
                    refine (HHQ.out _ HBO.out).mono ?_
                    rintro e w3 ⟨rfl, hb3⟩
                    have hB3 : Below w2.heap.size w2 w3 := (by refine Below.step' ?_ hb3; (repeat' (first | (with_reducible exact Below.refl _ _) | (with_reducible assumption) | (with_reducible refine below_drewN ?_ _) | (with_reducible refine Below.drew ?_) | (with_reducible refine Below.alloc ?_ ?_ _) | (with_reducible refine Below.setCell ?_ ?_ _) | (refine Below.trans ?_ (Below.mono (by assumption) ?_)) | go_size)))
                    clear cHX5 fHX5 sHX5 nHX5
                    clear cHXR fHXR sHXR nHXR
                    replace HX5 := hid (HX5.out.step hB3)
                    replace HXR := hid (HXR.out.step hB3)
                    have HB3 := hid (Below.step' HBO.out hb3)
                    have HB13 := hid (Below.step' HBO1.out hb3)
                    have hs3 := hB3.size
                    clear hb3 hB3
                    obtain ⟨cHX5, fHX5, sHX5, nHX5⟩ := HX5.out.all
                    try simp only [cbox] at cHX5
                    obtain ⟨cHXR, fHXR, sHXR, nHXR⟩ := HXR.out.all
                    try simp only [cbox] at cHXR
                    go_wp2_with fail
                    refine (HKY.out _).mono ?_
                    rintro e w4 ⟨rfl, rfl⟩
                    go_wp2_with fail
                    refine (HCO.out _).mono ?_
                    rintro e w4 ⟨rfl, rfl⟩
                    go_wp2_with fail
                    refine (HVA.out _).mono ?_
                    rintro e w4 ⟨rfl, rfl⟩
                    by_cases hk0 : 0 < i
                    · obtain ⟨⟨p0, p1⟩, hpe, hpc⟩ := hp hk0
                      obtain ⟨g0, g1⟩ := hpc w3 HB3.out
                      have hd : decide ((0 : Int) < (i : Int)) = true := by simp; omega
                      have hd2 : decide (0 < i) = true := by simp; omega
                      simp only at g0 g1
                      clear hp hpc
                      have z1 : IntKind.i64.wrap ((i : Int) - 1) = (i : Int) - 1 := IntWalk.i64_in _ (by omega)
                      have z2 : (1 : Int) ≤ (i : Int) := by omega
                      have z3 : (i : Int) - 1 < (l.length : Int) := by omega
                      have z4 : ((i : Int) - 1).toNat = i - 1 := by omega
                      have hblt : b < w3.heap.size := World.block_lt_of_cell? _ _ g0
                      have hbd := HBD.out
                      rw [hpe, hd2] at hbd
                      simp only [Bool.not_true, Bool.false_or, Bool.true_and] at hbd
                      have HBD2 := hid hbd
                      clear hpe hbd HBD HBAD hd2
                      have hbf := fun w => before_any p0 p1 d0 d1 w
                      cases hbe : before (p0, p1) (d0, d1)
                      rotate_left
                      · rw [hbe] at HBD2 hbf
                        have HBF := hid hbf
                        clear hbe hbf
                        go_wp2
                        refine region_ext (by kernel_rfl) (by kernel_rfl) (fun hext => ?_)
                        repeat (any_goals ((with_reducible refine wpQuiet_step (fun K hK => ?_)); go_simp; first | (with_reducible refine hK _ ?_; clear hK K) | ((with_reducible apply Exists.intro); (with_reducible refine ⟨fun _ => ?_, hK _ ?_⟩); ((go_at_call 47; exact ext_call _ (by simp) (HBF.out _))); clear hK K) | ((with_reducible refine (if_neg ?_).mpr (hK _ ?_)); (decide); clear hK K) | (split <;> (with_reducible refine hK _ ?_; clear hK K))))
                        all_goals ((with_reducible refine wpQuiet_nil ?_); clear hext; intro w1 hx1; have hb1 := ext_below hx1; clear hx1)
                        go_wp2
                        go_roundw
                        case rel =>
                          refine ⟨i + 1, by omega, by go_num, fun j hj => ?_, Below.step' HB13.out hb1⟩
                          by_cases e : j = i
                          · subst e; exact HBD2.out
                          · exact HN.out j (by omega)
                        case measure => simp [intOf]; omega
                      · rw [hbe] at HBD2 hbf
                        have HBF := hid hbf
                        clear hbe hbf
                        go_wp2
                        refine region_ext (by kernel_rfl) (by kernel_rfl) (fun hext => ?_)
                        repeat (any_goals ((with_reducible refine wpQuiet_step (fun K hK => ?_)); go_simp; first | (with_reducible refine hK _ ?_; clear hK K) | ((with_reducible apply Exists.intro); (with_reducible refine ⟨fun _ => ?_, hK _ ?_⟩); ((go_at_call 47; exact ext_call _ (by simp) (HBF.out _))); clear hK K) | ((with_reducible refine (if_neg ?_).mpr (hK _ ?_)); (decide); clear hK K) | (split <;> (with_reducible refine hK _ ?_; clear hK K))))
                        all_goals ((with_reducible refine wpQuiet_nil ?_); clear hext; intro w1 hx1; have hb1 := ext_below hx1; clear hx1)
                        go_wp2
                        go_ret
                        exact ⟨ret_int (HT3i.out HBD2.out).symm, Below.step' HB3.out hb1⟩
                    · have hd : decide ((0 : Int) < (i : Int)) = false := by simp; omega
                      have hd2 : decide (0 < i) = false := by simp; omega
                      have hbd := HBD.out
                      rw [hd2] at hbd
                      have HBD2 := hid hbd
                      clear hbd HBD HBAD hd2 hp
                      go_wp2
                      refine region_ext (by kernel_rfl) (by kernel_rfl) (fun hext => ?_)
                      repeat (any_goals ((with_reducible refine wpQuiet_step (fun K hK => ?_)); go_simp; first | (with_reducible refine hK _ ?_; clear hK K) | ((with_reducible apply Exists.intro); (with_reducible refine ⟨fun _ => ?_, hK _ ?_⟩); ((go_at_call 47; exact ext_call _ (by simp) (before_any _ _ _ _ _))); clear hK K) | ((with_reducible refine (if_neg ?_).mpr (hK _ ?_)); (decide); clear hK K) | (split <;> (with_reducible refine hK _ ?_; clear hK K))))
                      all_goals ((with_reducible refine wpQuiet_nil ?_); clear hext; intro w1 hx1; have hb1 := ext_below hx1; clear hx1)
                      go_wp2
                      go_roundw
                      case rel =>
                        refine ⟨i + 1, by omega, by go_num, fun j hj => ?_, Below.step' HB13.out hb1⟩
                        by_cases e : j = i
                        · subst e; exact HBD2.out
                        · exact HN.out j (by omega)
                      case measure => simp [intOf]; omega
        · have HR := hid (HT4.out trivial (by simpa using h4) (fun j hj => HN.out j (by omega)))
          obtain ⟨cHXR, fHXR, sHXR, nHXR⟩ := HXR.out.all
          try simp only [cbox] at cHXR
          go_wp2
          go_ret
          exact ⟨ret_int HR.out.symm, HB.out⟩
end Go.Proofs.YtldlmkfigjicgaaGreatDoor
