/- table.Check, viewref.Table. -/
import Derived.Test.YtogegnikpjcpdaaFlat
import Derived.Test.YtogegnikpjcpdaaJoined
namespace Go.Proofs.Ytogegnikpjcpdaa
set_option linter.unusedVariables false
open Go.ChangeShapes Go.WideShapes Go.ChangeAt Go.RowKit

def celOk (c : Ctx) (x : Cel) : Bool := rightB x.d.1 x.d.2 && hasB c x.d && inB x.key 0 49 && (inB x.col 0 2 && inB x.val (-1000) 1000)
def badCel (t : Tab) (i : Nat) : Bool := !celOk t.c (t.cells.getD i ⟨(0, 0), 0, 0, 0⟩) || (decide (0 < i) && !before (t.cells.getD (i - 1) ⟨(0, 0), 0, 0, 0⟩).d (t.cells.getD i ⟨(0, 0), 0, 0, 0⟩).d)
def tabI (t : Tab) : Int := if checkI t.c ≠ 0 then checkI t.c else if 400 < t.cells.length then 2 else if (List.range t.cells.length).any (badCel t) then 5 else 0
theorem tabI_ctx {t : Tab} (h : checkI t.c ≠ 0) : tabI t = checkI t.c := by unfold tabI; rw [if_pos h]
theorem tabI_large {t : Tab} (h : checkI t.c = 0) (h2 : 400 < t.cells.length) : tabI t = 2 := by unfold tabI; rw [if_neg (by simp [h]), if_pos h2]
theorem tabI_form {t : Tab} (h : checkI t.c = 0) (h2 : t.cells.length ≤ 400) {i : Nat} (hi : i < t.cells.length) (hb : badCel t i = true) : tabI t = 5 := by
  unfold tabI
  rw [if_neg (by simp [h]), if_neg (by omega), if_pos (List.any_eq_true.2 ⟨i, List.mem_range.2 hi, hb⟩)]
theorem tabI_ok {t : Tab} (h : checkI t.c = 0) (h2 : t.cells.length ≤ 400) (hg : ∀ i, i < t.cells.length → badCel t i = false) : tabI t = 0 := by
  unfold tabI
  rw [if_neg (by simp [h]), if_neg (by omega), if_neg]
  intro hq
  obtain ⟨i, hi, hb⟩ := List.any_eq_true.1 hq
  rw [hg i (List.mem_range.1 hi)] at hb
  cases hb
theorem badCel_at {t : Tab} {i : Nat} (h : i < t.cells.length) : badCel t i = (!celOk t.c t.cells[i] || (decide (0 < i) && !before (t.cells.getD (i - 1) ⟨(0, 0), 0, 0, 0⟩).d t.cells[i].d)) := by
  unfold badCel
  simp [List.getD, h]

set_option maxRecDepth 100000 in
theorem within_any (n lo hi : Int) (w : World) : Calls Try.prog 75 #[.int .i64 n, .int .i64 lo, .int .i64 hi] w fun e w' => e = .returned (.bool (inB n lo hi)) ∧ w = w' := by
  go_enter Try.func75, Try.ntmps75
  by_cases h1 : lo ≤ n <;> by_cases h2 : n ≤ hi
  all_goals
    go_wp2
    go_ret
    exact ⟨ret_bool (by simp [inB]; omega), rfl⟩
set_option maxRecDepth 100000 in
theorem keyed_any (n : Int) (w : World) : Calls Try.prog 76 #[.int .i64 n] w fun e w' => e = .returned (.bool (inB n 0 49)) ∧ w = w' := by
  go_enter Try.func76, Try.ntmps76
  go_wp2_with (refine (within_any _ _ _ _).mono ?_; rintro e w' ⟨rfl, rfl⟩)
  go_ret
  exact ⟨rfl, rfl⟩
set_option maxRecDepth 100000 in
theorem valued_any (c v : Int) (w : World) : Calls Try.prog 77 #[.int .i64 c, .int .i64 v] w fun e w' => e = .returned (.bool (inB c 0 2 && inB v (-1000) 1000)) ∧ w = w' := by
  have H0 := fun w => within_any c 0 2 w
  cases h : inB c 0 2
  all_goals
    rw [h] at H0
    have H := hid H0
    clear H0 h
    go_enter Try.func77, Try.ntmps77
    go_wp2_with fail
    refine (H.out _).mono ?_
    rintro e w' ⟨rfl, rfl⟩
    go_wp2_with (refine (within_any _ _ _ _).mono ?_; rintro e w' ⟨rfl, rfl⟩)
    go_ret
    exact ⟨ret_bool (by simp), rfl⟩

theorem make_lit1 (d : Int × Int) (A : Option Addr) (k : Nat) (w : World) (hr : Row w w.heap.size A (dcells [d])) : Calls Try.prog 16 #[.slice A 1 k] w (CtxErr (makeC [d]) (if rightB d.1 d.2 = true then 0 else 5) w) := by
  have h := make_any [d] A k w hr (by simp)
  have e : makeE [d] = if rightB d.1 d.2 = true then 0 else 5 := by
    unfold makeE
    cases hq : rightB d.1 d.2 <;> simp [hq]
  rw [e] at h
  exact h

theorem celOk_parts {c : Ctx} {x : Cel} (h1 : rightB x.d.1 x.d.2 = true) (h2 : hasB c x.d = true) (h3 : inB x.key 0 49 = true) (h4 : (inB x.col 0 2 && inB x.val (-1000) 1000) = true) : celOk c x = true := by
  unfold celOk; rw [h1, h2, h3, h4]; rfl
theorem celOk_no {c : Ctx} {x : Cel} (h : rightB x.d.1 x.d.2 = false ∨ hasB c x.d = false ∨ inB x.key 0 49 = false ∨ (inB x.col 0 2 && inB x.val (-1000) 1000) = false) : celOk c x = false := by
  unfold celOk
  rcases h with h | h | h | h <;> rw [h] <;> simp

set_option maxHeartbeats 4000000 in
set_option maxRecDepth 100000 in
theorem tcheck_any (t : Tab) (A : Option Addr) (k : Nat) (B : Option Addr) (m : Nat) (w : World) (ra : Row w w.heap.size A (dcells t.c.cloud)) (la : t.c.cloud.length ≤ 9223372036854775807)
    (rb : Row w w.heap.size B (tcells t.cells)) (lb : t.cells.length ≤ 9223372036854775807) :
    Calls Try.prog 47 #[tval t A k B m] w fun e w' => e = .returned (.int .i64 (tabI t)) ∧ Below w.heap.size w w' := by
  have HC := hid (fun w1 (hb : Below w.heap.size w w1) => check_any t.c A k w1 (ra.step hb) la)
  have HH := hid (fun w1 (hb : Below w.heap.size w w1) d => has_any t.c d A k w1 (ra.step hb) la)
  have RB := hid (fun w1 (hb : Below w.heap.size w w1) => rb.step hb)
  have HT1 := hid (@tabI_ctx t)
  have HT2 := hid (@tabI_large t)
  have HT3 := hid (@tabI_form t)
  have HT4 := hid (@tabI_ok t)
  have HBA := hid (fun i (h : i < t.cells.length) => badCel_at (t := t) h)
  clear ra rb
  obtain ⟨⟨c0, c1, c2, c3, cl⟩, l⟩ := t
  obtain ⟨c, hc⟩ : ∃ c : Ctx, c = ⟨c0, c1, c2, c3, cl⟩ := ⟨_, rfl⟩
  simp only [tval, cval] at *
  rw [← hc] at HC HH HT1 HT2 HT3 HT4 HBA ⊢
  have HCC := hid hc
  clear hc
  obtain ⟨I, hI⟩ : ∃ I, I = checkI c := ⟨_, rfl⟩
  rw [← hI] at HC HT1 HT2 HT3 HT4
  clear hI
  obtain ⟨R, hR⟩ : ∃ R, R = tabI ⟨c, l⟩ := ⟨_, rfl⟩
  rw [← hR] at HT1 HT2 HT3 HT4 ⊢
  clear hR
  by_cases q : I = 0
  rotate_left
  · have q2 : (I != 0) = true := by simpa using q
    have HR := hid (HT1.out q)
    clear q
    go_enter Try.func47, Try.ntmps47
    go_wp2_with fail
    refine (HC.out _ (by (repeat' (first | (with_reducible exact Below.refl _ _) | (with_reducible assumption) | (with_reducible refine below_drewN ?_ _) | (with_reducible refine Below.drew ?_) | (with_reducible refine Below.alloc ?_ ?_ _) | (with_reducible refine Below.setCell ?_ ?_ _) | (refine Below.trans ?_ (Below.mono (by assumption) ?_)) | go_size)))).mono ?_
    rintro e w1 ⟨rfl, hb1⟩
    go_wp2
    go_ret
    exact ⟨ret_int HR.out.symm, (by refine Below.step' ?_ hb1; (repeat' (first | (with_reducible exact Below.refl _ _) | (with_reducible assumption) | (with_reducible refine below_drewN ?_ _) | (with_reducible refine Below.drew ?_) | (with_reducible refine Below.alloc ?_ ?_ _) | (with_reducible refine Below.setCell ?_ ?_ _) | (refine Below.trans ?_ (Below.mono (by assumption) ?_)) | go_size)))⟩
  · subst q
    go_enter Try.func47, Try.ntmps47
    go_wp2_with fail
    refine (HC.out _ (by (repeat' (first | (with_reducible exact Below.refl _ _) | (with_reducible assumption) | (with_reducible refine below_drewN ?_ _) | (with_reducible refine Below.drew ?_) | (with_reducible refine Below.alloc ?_ ?_ _) | (with_reducible refine Below.setCell ?_ ?_ _) | (refine Below.trans ?_ (Below.mono (by assumption) ?_)) | go_size)))).mono ?_
    rintro e w1 ⟨rfl, hb1⟩
    have HBW := hid (show Below w.heap.size w w1 from (by refine Below.step' ?_ hb1; (repeat' (first | (with_reducible exact Below.refl _ _) | (with_reducible assumption) | (with_reducible refine below_drewN ?_ _) | (with_reducible refine Below.drew ?_) | (with_reducible refine Below.alloc ?_ ?_ _) | (with_reducible refine Below.setCell ?_ ?_ _) | (refine Below.trans ?_ (Below.mono (by assumption) ?_)) | go_size))))
    have HXT := hid (Blk.step (Blk.new w #[.int .i64 c0, .int .i64 c1, .int .i64 c2, .int .i64 c3, .slice A cl.length k, .slice B l.length m] 59) hb1)
    clear hb1
    obtain ⟨cHXT, fHXT, sHXT, nHXT⟩ := HXT.out.all
    try simp only [cbox] at cHXT
    by_cases h4 : 400 < l.length
    · have hq : decide ((400 : Int) < (l.length : Int)) = true := by simp; omega
      have HR := hid (HT2.out trivial h4)
      go_wp2
      go_ret
      exact ⟨ret_int HR.out.symm, HBW.out⟩
    · have hq : decide ((400 : Int) < (l.length : Int)) = false := by simp; omega
      go_wp2
      clear cHXT fHXT sHXT nHXT
      go_loopw [21] (fun s21 wr => ∃ i : Nat, i ≤ l.length ∧ s21 = .int .i64 i ∧ (∀ j, j < i → badCel ⟨c, l⟩ j = false) ∧ Below w1.heap.size w1 wr) (fun s21 _ => l.length - (intOf s21).toNat)
      case atStart => exact ⟨0, by omega, rfl, fun j h => absurd h (by omega), Below.refl _ _⟩
      case round =>
        obtain ⟨i, hi, rfl, hno, hbw⟩ := hrel
        have HN := hid hno
        have HB := hid (Below.step' HBW.out hbw)
        have HB1 := hid hbw
        have HXR := hid (HXT.out.step hbw)
        clear hno hbw
        by_cases hlt : i < l.length
        · obtain ⟨b, off, hA, hb, e0, e1, e2, e3, e4⟩ := (RB.out wr HB.out).cel hlt
          subst hA
          have hp : 0 < i → ∃ p : Int × Int, (l.getD (i - 1) ⟨(0, 0), 0, 0, 0⟩).d = p ∧ ∀ w1, Below w.heap.size w w1 → w1.cell? ⟨b, off + (i - 1) * 5, none⟩ = some (.int .i64 p.1) ∧ w1.cell? ⟨b, off + (i - 1) * 5 + 1, none⟩ = some (.int .i64 p.2) := by
            intro hm
            refine ⟨l[i - 1].d, by simp [List.getD, show i - 1 < l.length by omega], fun w1 hb1 => ?_⟩
            obtain ⟨b', off', he, hb', h0', h1', -⟩ := (RB.out w1 hb1).cel (k := i - 1) (by omega)
            injection he with he
            injection he with he1 he2
            subst he1 he2
            exact ⟨h0', h1'⟩
          have HBAD := hid (HBA.out i hlt)
          have HT3i := hid (fun hb => HT3.out trivial (by simpa using h4) (i := i) hlt hb)
          try simp only at HBAD
          generalize l[i] = x at *
          obtain ⟨⟨d0, d1⟩, key, col, val⟩ := x
          simp only at e0 e1 e2 e3 e4
          obtain ⟨cHXR, fHXR, sHXR, nHXR⟩ := HXR.out.all
          try simp only [cbox] at cHXR
          have hneb : (b = wr.heap.size) = False := by simp; omega
          go_wp2_with fail
          refine (make_lit1 (d0, d1) _ _ _ (by exact Row.new' (wr.alloc _) _ _ (by simp) rfl (by simp))).mono ?_
          rintro e w2 ⟨A2, k2, rfl, hr2, hb2, hn2⟩
          have hB2 : Below wr.heap.size wr w2 := (by refine Below.step' ?_ hb2; (repeat' (first | (with_reducible exact Below.refl _ _) | (with_reducible assumption) | (with_reducible refine below_drewN ?_ _) | (with_reducible refine Below.drew ?_) | (with_reducible refine Below.alloc ?_ ?_ _) | (with_reducible refine Below.setCell ?_ ?_ _) | (refine Below.trans ?_ (Below.mono (by assumption) ?_)) | go_size)))
          have HX5 := hid (Blk.thru (B := wr.heap.size + 1 + 1) (w := (wr.alloc (.cells #[.int .i64 d0, .int .i64 d1, .int .i64 key, .int .i64 col, .int .i64 val] 62)).alloc (.cells #[.int .i64 d0, .int .i64 d1] 27)) (b := wr.heap.size) (cs := #[.int .i64 d0, .int .i64 d1, .int .i64 key, .int .i64 col, .int .i64 val]) (T := 62) (by exact (Blk.new wr _ _).alloc _) (by simpa using hb2) (by omega))
          clear cHXR fHXR sHXR nHXR
          replace HXR := hid (HXR.out.step hB2)
          have HB2 := hid (Below.step' HB.out hB2)
          have HB12 := hid (Below.step' HB1.out hB2)
          have hs2 := hB2.size
          clear hb2 hB2 hr2 hn2 e0 e1 e2 e3 e4 hneb hb
          obtain ⟨cHXR, fHXR, sHXR, nHXR⟩ := HXR.out.all
          try simp only [cbox] at cHXR
          obtain ⟨cHX5, fHX5, sHX5, nHX5⟩ := HX5.out.all
          try simp only [cbox] at cHX5
          have hbo : Below w.heap.size w (w2.alloc (.cells (cbox (makeC [(d0, d1)]) A2 k2) 25)) := HB2.out.alloc HB2.out.size _
          have hbo1 : Below w1.heap.size w1 (w2.alloc (.cells (cbox (makeC [(d0, d1)]) A2 k2) 25)) := HB12.out.alloc HB12.out.size _
          have HBO := hid hbo
          have HBO1 := hid hbo1
          clear hbo hbo1
          simp only [cbox] at HBO HBO1
          obtain ⟨K, hK⟩ : ∃ K, K = makeC [(d0, d1)] := ⟨_, rfl⟩
          rw [← hK] at HBO HBO1 ⊢
          clear hK
          simp only [cval]
          cases hright : rightB d0 d1
          · have HR := hid (HT3i.out (by rw [HBAD.out, celOk_no (.inl hright)]; rfl))
            simp only [Bool.false_eq_true, if_false]
            go_wp2
            go_ret
            exact ⟨ret_int HR.out.symm, HBO.out⟩
          · simp only [if_true]
            have hh := fun w1 (hb : Below w.heap.size w w1) => HH.out w1 hb (d0, d1)
            cases hhas : hasB c (d0, d1)
            · have HR := hid (HT3i.out (by rw [HBAD.out, celOk_no (.inr (.inl hhas))]; rfl))
              rw [hhas] at hh
              have HHQ := hid hh
              clear hh
              go_wp2_with fail
              refine (HHQ.out _ HBO.out).mono ?_
              rintro e w3 ⟨rfl, hb3⟩
              go_wp2
              go_ret
              exact ⟨ret_int HR.out.symm, Below.step' HBO.out hb3⟩
            · rw [hhas] at hh
              have HHQ := hid hh
              clear hh
              have hky := fun w => keyed_any key w
              have hva := fun w => valued_any col val w
              cases hkey : inB key 0 49
              · have HR := hid (HT3i.out (by rw [HBAD.out, celOk_no (.inr (.inr (.inl hkey)))]; rfl))
                rw [hkey] at hky
                have HKY := hid hky
                clear hky hva
                go_wp2_with fail
                refine (HHQ.out _ HBO.out).mono ?_
                rintro e w3 ⟨rfl, hb3⟩
                have hB3 : Below w2.heap.size w2 w3 := (by refine Below.step' ?_ hb3; (repeat' (first | (with_reducible exact Below.refl _ _) | (with_reducible assumption) | (with_reducible refine below_drewN ?_ _) | (with_reducible refine Below.drew ?_) | (with_reducible refine Below.alloc ?_ ?_ _) | (with_reducible refine Below.setCell ?_ ?_ _) | (refine Below.trans ?_ (Below.mono (by assumption) ?_)) | go_size)))
                clear cHX5 fHX5 sHX5 nHX5
                replace HX5 := hid (HX5.out.step hB3)
                obtain ⟨cHX5, fHX5, sHX5, nHX5⟩ := HX5.out.all
                try simp only [cbox] at cHX5
                go_wp2_with fail
                refine (HKY.out _).mono ?_
                rintro e w4 ⟨rfl, rfl⟩
                go_wp2
                go_ret
                exact ⟨ret_int HR.out.symm, Below.step' HBO.out hb3⟩
              · cases hval : (inB col 0 2 && inB val (-1000) 1000)
                · have HR := hid (HT3i.out (by rw [HBAD.out, celOk_no (.inr (.inr (.inr hval)))]; rfl))
                  rw [hkey] at hky
                  rw [hval] at hva
                  have HKY := hid hky
                  have HVA := hid hva
                  clear hky hva hkey hval
                  go_wp2_with fail
                  refine (HHQ.out _ HBO.out).mono ?_
                  rintro e w3 ⟨rfl, hb3⟩
                  have hB3 : Below w2.heap.size w2 w3 := (by refine Below.step' ?_ hb3; (repeat' (first | (with_reducible exact Below.refl _ _) | (with_reducible assumption) | (with_reducible refine below_drewN ?_ _) | (with_reducible refine Below.drew ?_) | (with_reducible refine Below.alloc ?_ ?_ _) | (with_reducible refine Below.setCell ?_ ?_ _) | (refine Below.trans ?_ (Below.mono (by assumption) ?_)) | go_size)))
                  clear cHX5 fHX5 sHX5 nHX5
                  replace HX5 := hid (HX5.out.step hB3)
                  obtain ⟨cHX5, fHX5, sHX5, nHX5⟩ := HX5.out.all
                  try simp only [cbox] at cHX5
                  go_wp2_with fail
                  refine (HKY.out _).mono ?_
                  rintro e w4 ⟨rfl, rfl⟩
                  go_wp2_with fail
                  refine (HVA.out _).mono ?_
                  rintro e w4 ⟨rfl, rfl⟩
                  go_wp2
                  go_ret
                  exact ⟨ret_int HR.out.symm, Below.step' HBO.out hb3⟩
                · have hok := celOk_parts (c := c) (x := ⟨(d0, d1), key, col, val⟩) hright hhas hkey hval
                  rw [hkey] at hky
                  rw [hval] at hva
                  have HKY := hid hky
                  have HVA := hid hva
                  have hbad := HBAD.out
                  rw [hok] at hbad
                  have HBD := hid hbad
                  clear hky hva hkey hval hok hbad hright hhas
                  go_wp2_with fail
                  refine (HHQ.out _ HBO.out).mono ?_
                  rintro e w3 ⟨rfl, hb3⟩
                  have hB3 : Below w2.heap.size w2 w3 := (by refine Below.step' ?_ hb3; (repeat' (first | (with_reducible exact Below.refl _ _) | (with_reducible assumption) | (with_reducible refine below_drewN ?_ _) | (with_reducible refine Below.drew ?_) | (with_reducible refine Below.alloc ?_ ?_ _) | (with_reducible refine Below.setCell ?_ ?_ _) | (refine Below.trans ?_ (Below.mono (by assumption) ?_)) | go_size)))
                  clear cHX5 fHX5 sHX5 nHX5
                  clear cHXR fHXR sHXR nHXR
                  replace HX5 := hid (HX5.out.step hB3)
                  replace HXR := hid (HXR.out.step hB3)
                  have HB3 := hid (Below.step' HBO.out hb3)
                  have HB13 := hid (Below.step' HBO1.out hb3)
                  have hs3 := hB3.size
                  clear hb3 hB3
                  obtain ⟨cHX5, fHX5, sHX5, nHX5⟩ := HX5.out.all
                  try simp only [cbox] at cHX5
                  obtain ⟨cHXR, fHXR, sHXR, nHXR⟩ := HXR.out.all
                  try simp only [cbox] at cHXR
                  go_wp2_with fail
                  refine (HKY.out _).mono ?_
                  rintro e w4 ⟨rfl, rfl⟩
                  go_wp2_with fail
                  refine (HVA.out _).mono ?_
                  rintro e w4 ⟨rfl, rfl⟩
                  by_cases hk0 : 0 < i
                  · obtain ⟨⟨p0, p1⟩, hpe, hpc⟩ := hp hk0
                    obtain ⟨g0, g1⟩ := hpc w3 HB3.out
                    have hd : decide ((0 : Int) < (i : Int)) = true := by simp; omega
                    have hd2 : decide (0 < i) = true := by simp; omega
                    simp only at g0 g1
                    clear hp hpc
                    have z1 : IntKind.i64.wrap ((i : Int) - 1) = (i : Int) - 1 := IntWalk.i64_in _ (by omega)
                    have z2 : (1 : Int) ≤ (i : Int) := by omega
                    have z3 : (i : Int) - 1 < (l.length : Int) := by omega
                    have z4 : ((i : Int) - 1).toNat = i - 1 := by omega
                    have hblt : b < w3.heap.size := World.block_lt_of_cell? _ _ g0
                    have hbd := HBD.out
                    rw [hpe, hd2] at hbd
                    simp only [Bool.not_true, Bool.false_or, Bool.true_and] at hbd
                    have HBD2 := hid hbd
                    clear hpe hbd HBD HBAD hd2
                    cases hbf : decide (0 ≤ or2 (cmpI p0 d0) (cmpI p1 d1))
                    · have hbe : before (p0, p1) (d0, d1) = true := by
                        have := cmp_before (p0, p1) (d0, d1)
                        cases hq : before (p0, p1) (d0, d1)
                        · rw [hq] at this; simp only [iff_true] at this; rw [decide_eq_false_iff_not] at hbf; exact absurd this hbf
                        · rfl
                      rw [hbe] at HBD2
                      clear hbe
                      go_wp2
                      refine region_ext (by kernel_rfl) (by kernel_rfl) (fun hext => ?_)
                      repeat (any_goals ((with_reducible refine wpQuiet_step (fun K hK => ?_)); go_simp; first | (with_reducible refine hK _ ?_; clear hK K) | ((with_reducible apply Exists.intro); (with_reducible refine ⟨fun _ => ?_, hK _ ?_⟩); ((go_at_call 66; exact ext_call _ (by simp) (order_ints _ _ _ _ _))); clear hK K) | ((with_reducible refine (if_neg ?_).mpr (hK _ ?_)); (decide); clear hK K) | (split <;> (with_reducible refine hK _ ?_; clear hK K))))
                      all_goals ((with_reducible refine wpQuiet_nil ?_); clear hext; intro w1 hx1; have hb1 := ext_below hx1; clear hx1)
                      go_wp2
                      go_roundw
                      case rel =>
                        refine ⟨i + 1, by omega, by go_num, fun j hj => ?_, Below.step' HB13.out hb1⟩
                        by_cases e : j = i
                        · subst e; exact HBD2.out
                        · exact HN.out j (by omega)
                      case measure => simp [intOf]; omega
                    · have hbe : before (p0, p1) (d0, d1) = false := (cmp_before (p0, p1) (d0, d1)).1 (by simpa using hbf)
                      rw [hbe] at HBD2
                      clear hbe
                      go_wp2
                      refine region_ext (by kernel_rfl) (by kernel_rfl) (fun hext => ?_)
                      repeat (any_goals ((with_reducible refine wpQuiet_step (fun K hK => ?_)); go_simp; first | (with_reducible refine hK _ ?_; clear hK K) | ((with_reducible apply Exists.intro); (with_reducible refine ⟨fun _ => ?_, hK _ ?_⟩); ((go_at_call 66; exact ext_call _ (by simp) (order_ints _ _ _ _ _))); clear hK K) | ((with_reducible refine (if_neg ?_).mpr (hK _ ?_)); (decide); clear hK K) | (split <;> (with_reducible refine hK _ ?_; clear hK K))))
                      all_goals ((with_reducible refine wpQuiet_nil ?_); clear hext; intro w1 hx1; have hb1 := ext_below hx1; clear hx1)
                      go_wp2
                      go_ret
                      exact ⟨ret_int (HT3i.out HBD2.out).symm, Below.step' HB3.out hb1⟩
                  · have hd : decide ((0 : Int) < (i : Int)) = false := by simp; omega
                    have hd2 : decide (0 < i) = false := by simp; omega
                    have hbd := HBD.out
                    rw [hd2] at hbd
                    have HBD2 := hid hbd
                    clear hbd HBD HBAD hd2 hp
                    go_wp2
                    refine region_ext (by kernel_rfl) (by kernel_rfl) (fun hext => ?_)
                    repeat (any_goals ((with_reducible refine wpQuiet_step (fun K hK => ?_)); go_simp; first | (with_reducible refine hK _ ?_; clear hK K) | ((with_reducible apply Exists.intro); (with_reducible refine ⟨fun _ => ?_, hK _ ?_⟩); ((go_at_call 66; exact ext_call _ (by simp) (order_ints _ _ _ _ _))); clear hK K) | ((with_reducible refine (if_neg ?_).mpr (hK _ ?_)); (decide); clear hK K) | (split <;> (with_reducible refine hK _ ?_; clear hK K))))
                    all_goals ((with_reducible refine wpQuiet_nil ?_); clear hext; intro w1 hx1; have hb1 := ext_below hx1; clear hx1)
                    go_wp2
                    go_roundw
                    case rel =>
                      refine ⟨i + 1, by omega, by go_num, fun j hj => ?_, Below.step' HB13.out hb1⟩
                      by_cases e : j = i
                      · subst e; exact HBD2.out
                      · exact HN.out j (by omega)
                    case measure => simp [intOf]; omega
        · have HR := hid (HT4.out trivial (by simpa using h4) (fun j hj => HN.out j (by omega)))
          go_wp2
          go_ret
          exact ⟨ret_int HR.out.symm, HB.out⟩
end Go.Proofs.Ytogegnikpjcpdaa
