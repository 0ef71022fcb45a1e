/- TabR, DotU, Frame, DotV, OpenT -/
import Derived.Test.YtnnabfjlmenmgaaCk05
import Derived.Test.YtnnabfjlmenmgaaCk04
import Derived.Deep.CutBlock
import Derived.Deep.CutRange
import Derived.Test.YtnnabfjlmenmgaaRows
import Derived.Below
import Derived.ChangeSame
import Derived.Carry
import Derived.WalkKit
import Derived.ProofKit
import Derived.OpenShut
import Derived.Laws.IdiomArrays
import Derived.Deep.Slices
import Derived.JoinedCond
/- viewref.Table. -/
namespace Go.Proofs.Ytnnabfjlmenmgaa
set_option linter.unusedVariables false
open Go.ChangeShapes Go.WideShapes Go.ChangeAt Go.RowKit

set_option maxHeartbeats 4000000 in
set_option maxRecDepth 100000 in
theorem rtable_any (t : Tab) (A : Option Addr) (k : Nat) (B : Option Addr) (m : Nat) (w : World) (ra : Row w w.heap.size A (dcells t.c.cloud)) (la : t.c.cloud.length ≤ 9223372036854775807)
    (rb : Row w w.heap.size B (tcells t.cells)) (lb : t.cells.length ≤ 9223372036854775807) :
    Calls Try.prog 6 #[tval t A k B m] w fun e w' => e = .returned (.int .i64 (tabI t)) ∧ Below w.heap.size w w' := by
  have HC := hid (fun w1 (hb : Below w.heap.size w w1) => context_any t.c A k w1 (ra.step hb) la)
  have HH := hid (fun w1 (hb : Below w.heap.size w w1) d => Rhas_any t.c d A k w1 (ra.step hb) la)
  have RB := hid (fun w1 (hb : Below w.heap.size w w1) => rb.step hb)
  have HT1 := hid (@tabI_ctx t)
  have HT2 := hid (@tabI_large t)
  have HT3 := hid (@tabI_form t)
  have HT4 := hid (@tabI_ok t)
  have HBA := hid (fun i (h : i < t.cells.length) => badCel_at (t := t) h)
  clear ra rb
  obtain ⟨⟨c0, c1, c2, c3, cl⟩, l⟩ := t
  obtain ⟨c, hc⟩ : ∃ c : Ctx, c = ⟨c0, c1, c2, c3, cl⟩ := ⟨_, rfl⟩
  simp only [tval, cval] at *
  rw [← hc] at HC HH HT1 HT2 HT3 HT4 HBA ⊢
  have HCC := hid hc
  clear hc
  obtain ⟨I, hI⟩ : ∃ I, I = checkI c := ⟨_, rfl⟩
  rw [← hI] at HC HT1 HT2 HT3 HT4
  clear hI
  obtain ⟨R, hR⟩ : ∃ R, R = tabI ⟨c, l⟩ := ⟨_, rfl⟩
  rw [← hR] at HT1 HT2 HT3 HT4 ⊢
  clear hR
  by_cases q : I = 0
  rotate_left
  · have q2 : (I != 0) = true := by simpa using q
    have HR := hid (HT1.out q)
    clear q
    go_enter Try.func6, Try.ntmps6
    go_wp2_with fail
    refine (HC.out _ (by (repeat' (first | (with_reducible exact Below.refl _ _) | (with_reducible assumption) | (with_reducible refine below_drewN ?_ _) | (with_reducible refine Below.drew ?_) | (with_reducible refine Below.alloc ?_ ?_ _) | (with_reducible refine Below.setCell ?_ ?_ _) | (refine Below.trans ?_ (Below.mono (by assumption) ?_)) | go_size)))).mono ?_
    rintro e w1 ⟨rfl, hb1⟩
    go_wp2
    go_ret
    exact ⟨ret_int HR.out.symm, (by refine Below.step' ?_ hb1; (repeat' (first | (with_reducible exact Below.refl _ _) | (with_reducible assumption) | (with_reducible refine below_drewN ?_ _) | (with_reducible refine Below.drew ?_) | (with_reducible refine Below.alloc ?_ ?_ _) | (with_reducible refine Below.setCell ?_ ?_ _) | (refine Below.trans ?_ (Below.mono (by assumption) ?_)) | go_size)))⟩
  · subst q
    go_enter Try.func6, Try.ntmps6
    go_wp2_with fail
    refine (HC.out _ (by (repeat' (first | (with_reducible exact Below.refl _ _) | (with_reducible assumption) | (with_reducible refine below_drewN ?_ _) | (with_reducible refine Below.drew ?_) | (with_reducible refine Below.alloc ?_ ?_ _) | (with_reducible refine Below.setCell ?_ ?_ _) | (refine Below.trans ?_ (Below.mono (by assumption) ?_)) | go_size)))).mono ?_
    rintro e w1 ⟨rfl, hb1⟩
    have HBW := hid (show Below w.heap.size w w1 from (by refine Below.step' ?_ hb1; (repeat' (first | (with_reducible exact Below.refl _ _) | (with_reducible assumption) | (with_reducible refine below_drewN ?_ _) | (with_reducible refine Below.drew ?_) | (with_reducible refine Below.alloc ?_ ?_ _) | (with_reducible refine Below.setCell ?_ ?_ _) | (refine Below.trans ?_ (Below.mono (by assumption) ?_)) | go_size))))
    have HXT := hid (Blk.step (Blk.new w #[.int .i64 c0, .int .i64 c1, .int .i64 c2, .int .i64 c3, .slice A cl.length k, .slice B l.length m] 28) hb1)
    clear hb1
    obtain ⟨cHXT, fHXT, sHXT, nHXT⟩ := HXT.out.all
    try simp only [cbox] at cHXT
    by_cases h4 : 400 < l.length
    · have hq : decide ((400 : Int) < (l.length : Int)) = true := by simp; omega
      have HR := hid (HT2.out trivial h4)
      go_wp2
      go_ret
      exact ⟨ret_int HR.out.symm, HBW.out⟩
    · have hq : decide ((400 : Int) < (l.length : Int)) = false := by simp; omega
      go_wp2
      clear cHXT fHXT sHXT nHXT
      go_loopw [4] (fun s4 wr => ∃ i : Nat, i ≤ l.length ∧ s4 = .int .i64 i ∧ (∀ j, j < i → badCel ⟨c, l⟩ j = false) ∧ Below w1.heap.size w1 wr) (fun s4 _ => l.length - (intOf s4).toNat)
      case atStart => exact ⟨0, by omega, rfl, fun j h => absurd h (by omega), Below.refl _ _⟩
      case round =>
        obtain ⟨i, hi, rfl, hno, hbw⟩ := hrel
        have HN := hid hno
        have HB := hid (Below.step' HBW.out hbw)
        have HB1 := hid hbw
        have HXR := hid (HXT.out.step hbw)
        clear hno hbw
        by_cases hlt : i < l.length
        · obtain ⟨b, off, hA, hb, e0, e1, e2, e3, e4⟩ := (RB.out wr HB.out).cel hlt
          subst hA
          have hp : 0 < i → ∃ p : Int × Int, (l.getD (i - 1) ⟨(0, 0), 0, 0, 0⟩).d = p ∧ ∀ w1, Below w.heap.size w w1 → w1.cell? ⟨b, off + (i - 1) * 5, none⟩ = some (.int .i64 p.1) ∧ w1.cell? ⟨b, off + (i - 1) * 5 + 1, none⟩ = some (.int .i64 p.2) := by
            intro hm
            refine ⟨l[i - 1].d, by simp [List.getD, show i - 1 < l.length by omega], fun w1 hb1 => ?_⟩
            obtain ⟨b', off', he, hb', h0', h1', -⟩ := (RB.out w1 hb1).cel (k := i - 1) (by omega)
            injection he with he
            injection he with he1 he2
            subst he1 he2
            exact ⟨h0', h1'⟩
          have HBAD := hid (HBA.out i hlt)
          have HT3i := hid (fun hb => HT3.out trivial (by simpa using h4) (i := i) hlt hb)
          try simp only at HBAD
          generalize l[i] = x at *
          obtain ⟨⟨d0, d1⟩, key, col, val⟩ := x
          simp only at e0 e1 e2 e3 e4
          obtain ⟨cHXR, fHXR, sHXR, nHXR⟩ := HXR.out.all
          try simp only [cbox] at cHXR
          have hneb : (b = wr.heap.size) = False := by simp; omega
          have HX5 := hid (Blk.new wr #[.int .i64 d0, .int .i64 d1, .int .i64 key, .int .i64 col, .int .i64 val] 53)
          have HB2 := hid HB.out
          have HB12 := hid HB1.out
          have hrr := fun w => Rright_any d0 d1 w
          cases hright : rightB d0 d1
          · have HR := hid (HT3i.out (by rw [HBAD.out, celOk_no (.inl hright)]; rfl))
            rw [hright] at hrr
            have HRR := hid hrr
            clear hrr
            go_wp2_with fail
            refine (HRR.out _).mono ?_
            rintro e w2 ⟨rfl, hb2⟩
            go_wp2
            go_ret
            exact ⟨ret_int HR.out.symm, by refine Below.step' (HB.out.alloc HB.out.size _) hb2⟩
          · rw [hright] at hrr
            have HRR := hid hrr
            clear hrr
            go_wp2_with fail
            refine (HRR.out _).mono ?_
            rintro e w2 ⟨rfl, hb2⟩
            have hB2 : Below wr.heap.size wr w2 := (by refine Below.step' ?_ hb2; (repeat' (first | (with_reducible exact Below.refl _ _) | (with_reducible assumption) | (with_reducible refine below_drewN ?_ _) | (with_reducible refine Below.drew ?_) | (with_reducible refine Below.alloc ?_ ?_ _) | (with_reducible refine Below.setCell ?_ ?_ _) | (refine Below.trans ?_ (Below.mono (by assumption) ?_)) | go_size)))
            replace HX5 := hid (HX5.out.step hb2)
            clear cHXR fHXR sHXR nHXR
            replace HXR := hid (HXR.out.step hB2)
            have HBO := hid (Below.step' HB.out hB2)
            have HBO1 := hid (Below.step' HB1.out hB2)
            have hs2 := hB2.size
            clear hb2 hB2 e0 e1 e2 e3 e4 hneb hb
            obtain ⟨cHXR, fHXR, sHXR, nHXR⟩ := HXR.out.all
            try simp only [cbox] at cHXR
            obtain ⟨cHX5, fHX5, sHX5, nHX5⟩ := HX5.out.all
            try simp only [cbox] at cHX5
            have hh := fun w1 (hb : Below w.heap.size w w1) => HH.out w1 hb (d0, d1)
            cases hhas : hasB c (d0, d1)
            · have HR := hid (HT3i.out (by rw [HBAD.out, celOk_no (.inr (.inl hhas))]; rfl))
              rw [hhas] at hh
              have HHQ := hid hh
              clear hh
              go_wp2_with fail
              refine (HHQ.out _ HBO.out).mono ?_
              rintro e w3 ⟨rfl, hb3⟩
              go_wp2
              go_ret
              exact ⟨ret_int HR.out.symm, Below.step' HBO.out hb3⟩
            · rw [hhas] at hh
              have HHQ := hid hh
              clear hh
              have hky := fun w => in_any key 0 49 w
              have hco := fun w => in_any col 0 2 w
              have hva := fun w => in_any val (-1000) 1000 w
              cases hkey : inB key 0 49
              · have HR := hid (HT3i.out (by rw [HBAD.out, celOk_no (.inr (.inr (.inl hkey)))]; rfl))
                rw [hkey] at hky
                have HKY := hid hky
                clear hky hva hco
                go_wp2_with fail
                refine (HHQ.out _ HBO.out).mono ?_
                rintro e w3 ⟨rfl, hb3⟩
                have hB3 : Below w2.heap.size w2 w3 := (by refine Below.step' ?_ hb3; (repeat' (first | (with_reducible exact Below.refl _ _) | (with_reducible assumption) | (with_reducible refine below_drewN ?_ _) | (with_reducible refine Below.drew ?_) | (with_reducible refine Below.alloc ?_ ?_ _) | (with_reducible refine Below.setCell ?_ ?_ _) | (refine Below.trans ?_ (Below.mono (by assumption) ?_)) | go_size)))
                clear cHX5 fHX5 sHX5 nHX5
                replace HX5 := hid (HX5.out.step hB3)
                obtain ⟨cHX5, fHX5, sHX5, nHX5⟩ := HX5.out.all
                try simp only [cbox] at cHX5
                go_wp2_with fail
                refine (HKY.out _).mono ?_
                rintro e w4 ⟨rfl, rfl⟩
                go_wp2
                go_ret
                exact ⟨ret_int HR.out.symm, Below.step' HBO.out hb3⟩
              · cases hcol : inB col 0 2
                · have HR := hid (HT3i.out (by rw [HBAD.out, celOk_no (.inr (.inr (.inr (by rw [hcol]; rfl))))]; rfl))
                  rw [hkey] at hky
                  rw [hcol] at hco
                  have HKY := hid hky
                  have HVA := hid hco
                  clear hky hva hco hkey hcol
                  go_wp2_with fail
                  refine (HHQ.out _ HBO.out).mono ?_
                  rintro e w3 ⟨rfl, hb3⟩
                  have hB3 : Below w2.heap.size w2 w3 := (by refine Below.step' ?_ hb3; (repeat' (first | (with_reducible exact Below.refl _ _) | (with_reducible assumption) | (with_reducible refine below_drewN ?_ _) | (with_reducible refine Below.drew ?_) | (with_reducible refine Below.alloc ?_ ?_ _) | (with_reducible refine Below.setCell ?_ ?_ _) | (refine Below.trans ?_ (Below.mono (by assumption) ?_)) | go_size)))
                  clear cHX5 fHX5 sHX5 nHX5
                  replace HX5 := hid (HX5.out.step hB3)
                  obtain ⟨cHX5, fHX5, sHX5, nHX5⟩ := HX5.out.all
                  try simp only [cbox] at cHX5
                  go_wp2_with fail
                  refine (HKY.out _).mono ?_
                  rintro e w4 ⟨rfl, rfl⟩
                  go_wp2_with fail
                  refine (HVA.out _).mono ?_
                  rintro e w4 ⟨rfl, rfl⟩
                  go_wp2
                  go_ret
                  exact ⟨ret_int HR.out.symm, Below.step' HBO.out hb3⟩
                · cases hval : inB val (-1000) 1000
                  · have HR := hid (HT3i.out (by rw [HBAD.out, celOk_no (.inr (.inr (.inr (by rw [hcol, hval]; rfl))))]; rfl))
                    rw [hkey] at hky
                    rw [hcol] at hco
                    rw [hval] at hva
                    have HKY := hid hky
                    have HVA := hid hva
                    have HCO := hid hco
                    clear hky hva hco hkey hval hcol
                    go_wp2_with fail
                    refine (HHQ.out _ HBO.out).mono ?_
                    rintro e w3 ⟨rfl, hb3⟩
                    have hB3 : Below w2.heap.size w2 w3 := (by refine Below.step' ?_ hb3; (repeat' (first | (with_reducible exact Below.refl _ _) | (with_reducible assumption) | (with_reducible refine below_drewN ?_ _) | (with_reducible refine Below.drew ?_) | (with_reducible refine Below.alloc ?_ ?_ _) | (with_reducible refine Below.setCell ?_ ?_ _) | (refine Below.trans ?_ (Below.mono (by assumption) ?_)) | go_size)))
                    clear cHX5 fHX5 sHX5 nHX5
                    replace HX5 := hid (HX5.out.step hB3)
                    obtain ⟨cHX5, fHX5, sHX5, nHX5⟩ := HX5.out.all
                    try simp only [cbox] at cHX5
                    go_wp2_with fail
                    refine (HKY.out _).mono ?_
                    rintro e w4 ⟨rfl, rfl⟩
                    go_wp2_with fail
                    refine (HCO.out _).mono ?_
                    rintro e w4 ⟨rfl, rfl⟩
                    go_wp2_with fail
                    refine (HVA.out _).mono ?_
                    rintro e w4 ⟨rfl, rfl⟩
                    go_wp2
                    go_ret
                    exact ⟨ret_int HR.out.symm, Below.step' HBO.out hb3⟩
                  · have hok := celOk_parts (c := c) (x := ⟨(d0, d1), key, col, val⟩) hright hhas hkey (by rw [hcol, hval]; rfl)
                    rw [hkey] at hky
                    rw [hcol] at hco
                    rw [hval] at hva
                    have HKY := hid hky
                    have HVA := hid hva
                    have HCO := hid hco
                    have hbad := HBAD.out
                    rw [hok] at hbad
                    have HBD := hid hbad
                    clear hky hva hco hkey hval hcol hok hbad hright hhas
                    go_wp2_with fail
                    refine (HHQ.out _ HBO.out).mono ?_
                    rintro e w3 ⟨rfl, hb3⟩
                    have hB3 : Below w2.heap.size w2 w3 := (by refine Below.step' ?_ hb3; (repeat' (first | (with_reducible exact Below.refl _ _) | (with_reducible assumption) | (with_reducible refine below_drewN ?_ _) | (with_reducible refine Below.drew ?_) | (with_reducible refine Below.alloc ?_ ?_ _) | (with_reducible refine Below.setCell ?_ ?_ _) | (refine Below.trans ?_ (Below.mono (by assumption) ?_)) | go_size)))
                    clear cHX5 fHX5 sHX5 nHX5
                    clear cHXR fHXR sHXR nHXR
                    replace HX5 := hid (HX5.out.step hB3)
                    replace HXR := hid (HXR.out.step hB3)
                    have HB3 := hid (Below.step' HBO.out hb3)
                    have HB13 := hid (Below.step' HBO1.out hb3)
                    have hs3 := hB3.size
                    clear hb3 hB3
                    obtain ⟨cHX5, fHX5, sHX5, nHX5⟩ := HX5.out.all
                    try simp only [cbox] at cHX5
                    obtain ⟨cHXR, fHXR, sHXR, nHXR⟩ := HXR.out.all
                    try simp only [cbox] at cHXR
                    go_wp2_with fail
                    refine (HKY.out _).mono ?_
                    rintro e w4 ⟨rfl, rfl⟩
                    go_wp2_with fail
                    refine (HCO.out _).mono ?_
                    rintro e w4 ⟨rfl, rfl⟩
                    go_wp2_with fail
                    refine (HVA.out _).mono ?_
                    rintro e w4 ⟨rfl, rfl⟩
                    by_cases hk0 : 0 < i
                    · obtain ⟨⟨p0, p1⟩, hpe, hpc⟩ := hp hk0
                      obtain ⟨g0, g1⟩ := hpc w3 HB3.out
                      have hd : decide ((0 : Int) < (i : Int)) = true := by simp; omega
                      have hd2 : decide (0 < i) = true := by simp; omega
                      simp only at g0 g1
                      clear hp hpc
                      have z1 : IntKind.i64.wrap ((i : Int) - 1) = (i : Int) - 1 := IntWalk.i64_in _ (by omega)
                      have z2 : (1 : Int) ≤ (i : Int) := by omega
                      have z3 : (i : Int) - 1 < (l.length : Int) := by omega
                      have z4 : ((i : Int) - 1).toNat = i - 1 := by omega
                      have hblt : b < w3.heap.size := World.block_lt_of_cell? _ _ g0
                      have hbd := HBD.out
                      rw [hpe, hd2] at hbd
                      simp only [Bool.not_true, Bool.false_or, Bool.true_and] at hbd
                      have HBD2 := hid hbd
                      clear hpe hbd HBD HBAD hd2
                      have hbf := fun w => before_any p0 p1 d0 d1 w
                      cases hbe : before (p0, p1) (d0, d1)
                      rotate_left
                      · rw [hbe] at HBD2 hbf
                        have HBF := hid hbf
                        clear hbe hbf
                        go_wp2
                        refine region_ext (by kernel_rfl) (by kernel_rfl) (fun hext => ?_)
                        repeat (any_goals ((with_reducible refine wpQuiet_step (fun K hK => ?_)); go_simp; first | (with_reducible refine hK _ ?_; clear hK K) | ((with_reducible apply Exists.intro); (with_reducible refine ⟨fun _ => ?_, hK _ ?_⟩); ((go_at_call 22; exact ext_call _ (by simp) (HBF.out _))); clear hK K) | ((with_reducible refine (if_neg ?_).mpr (hK _ ?_)); (decide); clear hK K) | (split <;> (with_reducible refine hK _ ?_; clear hK K))))
                        all_goals ((with_reducible refine wpQuiet_nil ?_); clear hext; intro w1 hx1; have hb1 := ext_below hx1; clear hx1)
                        go_wp2
                        go_roundw
                        case rel =>
                          refine ⟨i + 1, by omega, by go_num, fun j hj => ?_, Below.step' HB13.out hb1⟩
                          by_cases e : j = i
                          · subst e; exact HBD2.out
                          · exact HN.out j (by omega)
                        case measure => simp [intOf]; omega
                      · rw [hbe] at HBD2 hbf
                        have HBF := hid hbf
                        clear hbe hbf
                        go_wp2
                        refine region_ext (by kernel_rfl) (by kernel_rfl) (fun hext => ?_)
                        repeat (any_goals ((with_reducible refine wpQuiet_step (fun K hK => ?_)); go_simp; first | (with_reducible refine hK _ ?_; clear hK K) | ((with_reducible apply Exists.intro); (with_reducible refine ⟨fun _ => ?_, hK _ ?_⟩); ((go_at_call 22; exact ext_call _ (by simp) (HBF.out _))); clear hK K) | ((with_reducible refine (if_neg ?_).mpr (hK _ ?_)); (decide); clear hK K) | (split <;> (with_reducible refine hK _ ?_; clear hK K))))
                        all_goals ((with_reducible refine wpQuiet_nil ?_); clear hext; intro w1 hx1; have hb1 := ext_below hx1; clear hx1)
                        go_wp2
                        go_ret
                        exact ⟨ret_int (HT3i.out HBD2.out).symm, Below.step' HB3.out hb1⟩
                    · have hd : decide ((0 : Int) < (i : Int)) = false := by simp; omega
                      have hd2 : decide (0 < i) = false := by simp; omega
                      have hbd := HBD.out
                      rw [hd2] at hbd
                      have HBD2 := hid hbd
                      clear hbd HBD HBAD hd2 hp
                      go_wp2
                      refine region_ext (by kernel_rfl) (by kernel_rfl) (fun hext => ?_)
                      repeat (any_goals ((with_reducible refine wpQuiet_step (fun K hK => ?_)); go_simp; first | (with_reducible refine hK _ ?_; clear hK K) | ((with_reducible apply Exists.intro); (with_reducible refine ⟨fun _ => ?_, hK _ ?_⟩); ((go_at_call 22; exact ext_call _ (by simp) (before_any _ _ _ _ _))); clear hK K) | ((with_reducible refine (if_neg ?_).mpr (hK _ ?_)); (decide); clear hK K) | (split <;> (with_reducible refine hK _ ?_; clear hK K))))
                      all_goals ((with_reducible refine wpQuiet_nil ?_); clear hext; intro w1 hx1; have hb1 := ext_below hx1; clear hx1)
                      go_wp2
                      go_roundw
                      case rel =>
                        refine ⟨i + 1, by omega, by go_num, fun j hj => ?_, Below.step' HB13.out hb1⟩
                        by_cases e : j = i
                        · subst e; exact HBD2.out
                        · exact HN.out j (by omega)
                      case measure => simp [intOf]; omega
        · have HR := hid (HT4.out trivial (by simpa using h4) (fun j hj => HN.out j (by omega)))
          obtain ⟨cHXR, fHXR, sHXR, nHXR⟩ := HXR.out.all
          try simp only [cbox] at cHXR
          go_wp2
          go_ret
          exact ⟨ret_int HR.out.symm, HB.out⟩
end Go.Proofs.Ytnnabfjlmenmgaa
/- viewlaw.DotSays$1, viewlaw.DotSays: the first walk. -/
namespace Go.Proofs.Ytnnabfjlmenmgaa
set_option linter.unusedVariables false
open Go.ChangeShapes Go.WideShapes Go.ChangeAt Go.RowKit

theorem packStep_len (c : Ctx) (d : Int × Int) : (packStep c d).cloud.length ≤ c.cloud.length + 1 := by
  unfold packStep
  split
  · omega
  · split
    · rw [inc_cloud]; omega
    · simp
theorem foldl_len : ∀ (l : List (Int × Int)) (c : Ctx), (l.foldl packStep c).cloud.length ≤ c.cloud.length + l.length
  | [], c => by simp
  | d :: l, c => by
    have h1 := foldl_len l (packStep c d)
    have h2 := packStep_len c d
    simp only [List.foldl_cons, List.length_cons]
    omega
theorem makeC_len (l : List (Int × Int)) : (makeC l).cloud.length ≤ 400 := by
  unfold makeC
  split
  · simp
  · split
    · simp
    · have h1 := foldl_len (cpt (l.mergeSort dotLe)) ⟨0, 0, 0, 0, []⟩
      have h2 := cpt_length (l.mergeSort dotLe)
      rw [List.length_mergeSort] at h2
      simp only [List.length_nil] at h1
      unfold packL
      omega

end Go.Proofs.Ytnnabfjlmenmgaa
/- The frame that the laws of this seat share: a call that answers true and turns nothing below the heap's size fits the row. No law in sight. -/
namespace Go.Proofs.Ytnnabfjlmenmgaa
set_option linter.unusedVariables false
open Go.ChangeShapes Go.WideShapes Go.ChangeAt Go.RowKit

section
variable {H : Type} {enc : TypeId × Value → H} {P : Program}

theorem trodAll_stays (hl : laidOutB P = true) {W W' : World} (hb : Below W.heap.size W W') {sp : Nat → Bool} :
    ∀ {ts : List TypeId} {vs : List Value} {ds : List (DataW H)} {ps : List MemPlace}, (∀ t ∈ ts, P.readableRec t = true ∧ t < P.types.size) →
      DataW.TrodAll enc P W 0 (fun _ => true) true ts vs ds ps → (∀ x ∈ ps, x.block < W.heap.size) → (∀ x ∈ ps, sp x.block = true) → DataW.TrodAll enc P W' 0 sp true ts vs ds ps
  | [], _, _, _, _, h, _, _ => by
    obtain ⟨rfl, rfl, rfl⟩ := trodAll_nil h
    exact trodAll_mk0
  | t :: ts, _, _, _, ht, h, hlt, hs => by
    obtain ⟨v, vs, d, ds, p, q, rfl, rfl, rfl, h1, h2⟩ := trodAll_cons h
    have ht0 := ht t (by simp)
    exact ⟨p, q, WideElems.Trod_stays hl ht0.1 ht0.2 h1 (fun x hx => hb.same (hlt x (by simp [hx]))) (fun x hx => hs x (by simp [hx])),
      trodAll_stays hl hb (fun u hu => ht u (by simp [hu])) h2 (fun x hx => hlt x (by simp [hx])) (fun x hx => hs x (by simp [hx])), rfl⟩

theorem trodAll_len {W : World} {sp : Nat → Bool} {hd : Bool} {b : Nat} : ∀ {ts : List TypeId} {vs : List Value} {ds : List (DataW H)} {ps : List MemPlace}, DataW.TrodAll enc P W b sp hd ts vs ds ps → ds.length = ts.length
  | [], _, _, _, h => by
    obtain ⟨rfl, rfl, rfl⟩ := trodAll_nil h
    rfl
  | t :: ts, _, _, _, h => by
    obtain ⟨v, vs, d, ds, p, q, rfl, rfl, rfl, h1, h2⟩ := trodAll_cons h
    simp [trodAll_len h2]

theorem law_post {f : Func} {s : ChangeSpec} {W W' : World} {args : Array Value} {ds gs : List (DataW H)} {before : List MemPlace} {tb : TypeId} (hl : laidOutB P = true)
    (hts : ∀ t ∈ f.params.toList, P.readableRec t = true ∧ t < P.types.size) (hres : f.resultTypes = #[tb]) (hbool : P.underlying tb = some .bool) (hvars : s.vars = [])
    (hspec : ∀ es : List (DataW H), es.length = f.params.toList.length → s.fn H es = { results := [.lit (.bool true)], args := es })
    (hW : DataW.Whole enc P f.params.toList s.vars false W args.toList ds gs before) (hb : Below W.heap.size W W') : s.post enc P f false true false false W args (.bool true) W' := by
  have hlt := hW.lt
  have hold : ∀ x ∈ before, (fun b => decide (b < W.heap.size)) x.block = true := fun x hx => by simpa using hlt x hx
  have hW0 := hW
  obtain ⟨p, q, hA, hV, rfl, hz, hn⟩ := hW
  rw [hvars] at hV
  obtain ⟨rfl, rfl⟩ := trodVars_none hV
  have hsp := hspec ds (trodAll_len hA)
  have hargs : ∀ sp : Nat → Bool, (∀ x ∈ p, sp x.block = true) → DataW.TrodAll enc P W' 0 sp true f.params.toList args.toList ds p := fun sp h =>
    trodAll_stays hl hb hts hA (fun x hx => hlt x (by simp [hx])) h
  have hr : ∀ (b : Nat) (sp : Nat → Bool) (hd : Bool), DataW.TrodAll enc P W' b sp hd f.resultTypes.toList ((Value.bool true).resultList f.resultTypes.size) [.lit (.bool true)] [] := by
    intro b sp hd
    rw [hres]
    exact trodAll_cons_mk (shut_bool hbool _) trodAll_mk0
  refine ⟨ds, [], p ++ [], [], p, [], hW0, ?_, ?_, ?_, World.keptBut_mono (fun x hx => ⟨hx, .inr (by simpa using hx)⟩) (hb.frame (· ∈ p ++ [])), fun _ => ?_⟩
  · rw [List.append_nil, hsp]; exact hr _ _ _
  · rw [List.append_nil, hsp]; exact hargs _ (fun x hx => by simpa using hlt x (by simp [hx]))
  · rw [List.append_nil, hsp, hvars]; rfl
  · refine ⟨ok_one hres rfl (okWide_bool_mk hbool _), [.lit (.bool true)] ++ ds, [], p ++ [], ⟨p, [], ?_, by rw [hvars]; rfl, rfl, ?_, fun h => by cases h⟩, fun x hx _ => by simpa using hx⟩
    · have h := trodAll_append (hargs (fun _ => true) (fun _ _ => rfl)) (hr 0 (fun _ => true) true)
      simpa using h
    · intro b off hx
      rw [hb.frozen (hlt _ hx)]
      exact hz b off hx
end

/-- The row's step of a law: its walk, from the arguments as they are read, is all that is left. -/
theorem law_lifted {C : Checked} {os : Os} {f : FuncId} {fn : Func} {s : ChangeSpec} {conds : List PathCond} {H : Type} {enc : TypeId × Value → H} {tb : TypeId}
    (own : ownKnob C.prog.godebug = none) (started : os.Started) (noInit : C.prog.inits.idxOf? f = none) (hfn : C.prog.funcs[f]? = some fn)
    (witness : ∃ (w : World) (tape : Tape) (i : Input), w.os = os ∧ (w.forCall tape i).Shaped C.prog ∧ i.vars = [] ∧ Input.okWide C.prog (w.forCall tape i) .any w.heap.size f i ∧
      s.pre6 enc C.prog fn conds false (w.forCall tape i).memory i.args ∧ ({} : Assume).holds C.prog (lone (Frame.enter C.prog f i.args .normal) [] (w.forCall tape i)))
    (hl : laidOutB C.prog = true) (hts : ∀ t ∈ fn.params.toList, C.prog.readableRec t = true ∧ t < C.prog.types.size) (hres : fn.resultTypes = #[tb]) (hbool : C.prog.underlying tb = some .bool) (hvars : s.vars = [])
    (hspec : ∀ es : List (DataW H), es.length = fn.params.toList.length → s.fn H es = { results := [.lit (.bool true)], args := es })
    (walk : ∀ (W : World) (base : Nat) (args : Array Value) (ds : List (DataW H)) (ps : List MemPlace),
      (∀ (j : Nat) t v, fn.params[j]? = some t → args[j]? = some v → Value.okWide C.prog W .any base t v) → DataW.TrodAll enc C.prog W 0 (fun _ => true) true fn.params.toList args.toList ds ps →
      Calls C.prog f args W fun e W' => e = .returned (.bool true) ∧ Below W.heap.size W W') :
    ReturnsInHanded {} C os f .any (s.pre6 enc C.prog fn conds false) (s.post enc C.prog fn false true false false) := by
  refine returnsInHanded_of_change (C := C) own started noInit hfn witness ?_
  intro W base args ds gs before hval hW hcnd _
  have hW' := hW
  obtain ⟨p, q, hA, _⟩ := hW
  refine (walk W base args ds p hval hA).mono fun e W' ⟨he, hb⟩ => ?_
  exact ⟨_, he, law_post hl hts hres hbool hvars hspec hW' hb⟩
end Go.Proofs.Ytnnabfjlmenmgaa
/- The frame of DotSays: begun. First lemma: an argument []Dot read by DataW.trod is a Row. -/
namespace Go.Proofs.Ytnnabfjlmenmgaa
set_option linter.unusedVariables false
open Go.ChangeShapes Go.WideShapes Go.ChangeAt Go.RowKit Go.Deep

/-- A row from its cells, one dot at a time. -/
theorem Row.of_cells {w : World} {b off n : Nat} (hb : b < w.heap.size) (h : ∀ i, i < n → ∃ x y : Int, w.cell? ⟨b, off + i * 2, none⟩ = some (.int .i64 x) ∧ w.cell? ⟨b, off + i * 2 + 1, none⟩ = some (.int .i64 y)) :
    ∃ l : List (Int × Int), l.length = n ∧ Row w w.heap.size (some ⟨b, off, none⟩) (dcells l) := by
  have h' : ∀ m, m ≤ n → ∃ l : List (Int × Int), l.length = m ∧ ∀ j u, (dcells l)[j]? = some u → w.cell? ⟨b, off + j, none⟩ = some u := by
    intro m
    induction m with
    | zero => exact fun _ => ⟨[], rfl, fun j u hu => by simp [dcells] at hu⟩
    | succ m ih =>
      intro hm
      obtain ⟨l, hl, hc⟩ := ih (by omega)
      obtain ⟨x, y, hx, hy⟩ := h m (by omega)
      refine ⟨l ++ [(x, y)], by simp [hl], fun j u hu => ?_⟩
      have e : dcells (l ++ [(x, y)]) = dcells l ++ [.int .i64 x, .int .i64 y] := by simp [dcells]
      rw [e] at hu
      have hlen := dcells_len l
      by_cases hj : j < (dcells l).length
      · rw [List.getElem?_append_left hj] at hu
        exact hc j u hu
      · rw [List.getElem?_append_right (by omega)] at hu
        rcases (by omega : j = m * 2 ∨ j = m * 2 + 1 ∨ m * 2 + 2 ≤ j) with h1 | h1 | h1
        · have h2 : j - (dcells l).length = 0 := by omega
          rw [h2] at hu
          injection hu with hu
          rw [← hu, h1]; exact hx
        · have h2 : j - (dcells l).length = 1 := by omega
          rw [h2] at hu
          injection hu with hu
          rw [← hu, h1]; exact hy
        · rw [hlen, hl, List.getElem?_eq_none (by simp; omega)] at hu; cases hu
  obtain ⟨l, hl, hc⟩ := h' n (Nat.le_refl _)
  exact ⟨l, hl, .inr ⟨b, off, rfl, hb, hc⟩⟩

set_option maxRecDepth 100000 in
/-- A dot in two cells, as the claim reads it. -/
theorem open_dot {H : Type} {enc : TypeId × Value → H} {w : World} {base n : Nat} {spare : Nat → Bool} {held : Bool} {cs : List Value} {x : DataW H × List MemPlace}
    (h : DataW.trod enc Try.prog w base spare held n 51 cs = some x) : ∃ a b : Int, cs = [.int .i64 a, .int .i64 b] := by
  obtain ⟨xs, n', _, hx, hlen, hxl, hf⟩ := DataW.trod_struct Try.underlying51 h
  have c2 : Try.prog.cellsOf 51 = 2 := by kernel_rfl
  have c1 : Try.prog.cellsOf 3 = 1 := by kernel_rfl
  rw [c2] at hlen
  match cs, hlen with
  | [u, v], _ =>
    match xs, hxl with
    | [y0, y1], _ =>
      have h0 := hf 0 _ rfl
      have h1 := hf 1 _ rfl
      simp only [List.getElem_toArray, List.getElem_cons_zero, List.getElem_cons_succ, List.getElem?_cons_zero, List.getElem?_cons_succ] at h0 h1
      simp only [c1, List.drop_zero, List.take_succ_cons, List.take_zero, List.drop_succ_cons] at h0 h1
      obtain ⟨a, ea, _⟩ := DataW.trod_int Try.underlying3 h0
      obtain ⟨b, eb, _⟩ := DataW.trod_int Try.underlying3 h1
      injection ea with ea
      injection eb with eb
      subst ea eb
      exact ⟨a, b, rfl⟩

set_option maxRecDepth 100000 in
/-- The cells of a list of dots, as the claim reads it, are a row; its length is in an int's reach. -/
theorem open_dots {H : Type} {enc : TypeId × Value → H} {w : World} {base n : Nat} {spare : Nat → Bool} {held : Bool} {cs : List Value} {x : DataW H × List MemPlace}
    (h : DataW.trod enc Try.prog w base spare held n 23 cs = some x) : ∃ (A : Option Addr) (k : Nat) (l : List (Int × Int)), cs = [.slice A l.length k] ∧ Row w w.heap.size A (dcells l) ∧ l.length ≤ 9223372036854775807 := by
  have c2 : Try.prog.cellsOf 51 = 2 := by kernel_rfl
  rcases open_slice Try.underlying23 h with ⟨rfl, _⟩ | ⟨a, len, cap, m, n', D, Pl, rfl, hb, hl, hm, hmm, hx, hi⟩
  · exact ⟨none, 0, [], rfl, Row.nil, by simp⟩
  · by_cases h0 : len = 0
    · subst h0
      exact ⟨some a, cap, [], rfl, Row.nil, by simp⟩
    · have hlm : len ≤ m := by rw [hmm]; split <;> omega
      have hd : ∀ i, i < len → ∃ x y : Int, w.cell? (a.add (i * 2)) = some (.int .i64 x) ∧ w.cell? ((a.add (i * 2)).add 1) = some (.int .i64 y) := by
        intro i hil
        obtain ⟨cs', hc, ht⟩ := hi i (by omega)
        obtain ⟨x, y, rfl⟩ := open_dot ht
        rw [c2] at hc
        obtain ⟨_, _, hat⟩ := World.cells?_some hc
        exact ⟨x, y, by simpa [Addr.add] using hat 0 (by omega), hat 1 (by omega)⟩
      obtain ⟨b, off, spot⟩ := a
      obtain ⟨x0, _, hx0, _⟩ := hd 0 (by omega)
      have hspot : spot = none := by simpa [Addr.add] using World.cell?_spot hx0
      subst hspot
      have hblk : b < w.heap.size := World.block_lt_of_cell? _ _ (by simpa [Addr.add] using hx0)
      obtain ⟨l, hll, hr⟩ := Row.of_cells (w := w) (b := b) (off := off) (n := len) hblk (fun i hil => by
        obtain ⟨x, y, hx, hy⟩ := hd i hil
        rw [add_none] at hx
        rw [add_none, add_none] at hy
        exact ⟨x, y, hx, hy⟩)
      subst hll
      refine ⟨some ⟨b, off, none⟩, cap, l, rfl, hr, ?_⟩
      simp only [maxLen] at hm
      omega

set_option maxRecDepth 100000 in
/-- A context in five cells, as the claim reads it. -/
theorem open_ctx_cells {H : Type} {enc : TypeId × Value → H} {w : World} {base n : Nat} {spare : Nat → Bool} {held : Bool} {cs : List Value} {x : DataW H × List MemPlace}
    (h : DataW.trod enc Try.prog w base spare held n 25 cs = some x) :
    ∃ (c : Ctx) (A : Option Addr) (k : Nat), cs = [.int .i64 c.c0, .int .i64 c.c1, .int .i64 c.c2, .int .i64 c.c3, .slice A c.cloud.length k] ∧ Row w w.heap.size A (dcells c.cloud) ∧ c.cloud.length ≤ 9223372036854775807 := by
  obtain ⟨xs, n', _, hx, hlen, hxl, hf⟩ := DataW.trod_struct Try.underlying25 h
  have c5 : Try.prog.cellsOf 25 = 5 := by kernel_rfl
  have c4 : Try.prog.cellsOf 22 = 4 := by kernel_rfl
  have c1 : Try.prog.cellsOf 23 = 1 := by kernel_rfl
  have ci : Try.prog.cellsOf 3 = 1 := by kernel_rfl
  rw [c5] at hlen
  match cs, hlen with
  | [u0, u1, u2, u3, u4], _ =>
    match xs, hxl with
    | [y0, y1], _ =>
      have h0 := hf 0 _ rfl
      have h1 := hf 1 _ rfl
      simp only [List.getElem_toArray, List.getElem_cons_zero, List.getElem_cons_succ, List.getElem?_cons_zero, List.getElem?_cons_succ] at h0 h1
      simp only [c4, c1, List.drop_zero, List.take_succ_cons, List.take_zero, List.drop_succ_cons] at h0 h1
      obtain ⟨z0, z1, z2, z3, m, _, e0, e1, e2, e3⟩ := trod_array4 Try.underlying22 ci h0
      obtain ⟨a, ea, _⟩ := DataW.trod_int Try.underlying3 e0
      obtain ⟨b, eb, _⟩ := DataW.trod_int Try.underlying3 e1
      obtain ⟨c, ec, _⟩ := DataW.trod_int Try.underlying3 e2
      obtain ⟨d, ed, _⟩ := DataW.trod_int Try.underlying3 e3
      obtain ⟨A, k, l, el, hr, hl⟩ := open_dots h1
      injection ea with ea
      injection eb with eb
      injection ec with ec
      injection ed with ed
      injection el with el
      subst ea eb ec ed el
      exact ⟨⟨a, b, c, d, l⟩, A, k, rfl, hr, hl⟩

set_option maxRecDepth 100000 in
theorem arg_ctx {H : Type} {enc : TypeId × Value → H} {w : World} {r : Reach} {b0 base : Nat} {spare : Nat → Bool} {held : Bool} {v : Value} {d : DataW H} {p : List MemPlace}
    (hv : Value.okWide Try.prog w r b0 25 v) (h : DataW.Trod enc Try.prog w base spare held 25 v d p) :
    ∃ (c : Ctx) (A : Option Addr) (k : Nat), v = cval c A k ∧ Row w w.heap.size A (dcells c.cloud) ∧ c.cloud.length ≤ 9223372036854775807 := by
  obtain ⟨⟨cs⟩, rfl, _⟩ := okWide_struct Try.underlying25 hv
  obtain ⟨n, hn⟩ := h
  obtain ⟨c, A, k, e, hr, hl⟩ := open_ctx_cells hn
  simp only [Value.cells] at e
  subst e
  exact ⟨c, A, k, rfl, hr, hl⟩

set_option maxRecDepth 100000 in
theorem arg_dot {H : Type} {enc : TypeId × Value → H} {w : World} {r : Reach} {b0 base : Nat} {spare : Nat → Bool} {held : Bool} {v : Value} {d : DataW H} {p : List MemPlace}
    (hv : Value.okWide Try.prog w r b0 51 v) (h : DataW.Trod enc Try.prog w base spare held 51 v d p) : ∃ x : Int × Int, v = dval x := by
  obtain ⟨⟨cs⟩, rfl, _⟩ := okWide_struct Try.underlying51 hv
  obtain ⟨n, hn⟩ := h
  obtain ⟨a, b, e⟩ := open_dot hn
  simp only [Value.cells] at e
  subst e
  exact ⟨(a, b), rfl⟩

set_option maxRecDepth 100000 in
theorem arg_dots {H : Type} {enc : TypeId × Value → H} {w : World} {r : Reach} {b0 base : Nat} {spare : Nat → Bool} {held : Bool} {v : Value} {d : DataW H} {p : List MemPlace}
    (hv : Value.okWide Try.prog w r b0 23 v) (h : DataW.Trod enc Try.prog w base spare held 23 v d p) :
    ∃ (A : Option Addr) (k : Nat) (l : List (Int × Int)), v = .slice A l.length k ∧ Row w w.heap.size A (dcells l) ∧ l.length ≤ 9223372036854775807 := by
  obtain ⟨a, n, c, rfl⟩ := okWide_slice Try.underlying23 hv
  obtain ⟨m, hm⟩ := h
  obtain ⟨A, k, l, e, hr, hl⟩ := open_dots hm
  simp only [Value.cells, List.cons.injEq, and_true] at e
  exact ⟨A, k, l, e, hr, hl⟩

set_option maxRecDepth 100000 in
theorem arg_int {H : Type} {enc : TypeId × Value → H} {w : World} {r : Reach} {b0 base : Nat} {spare : Nat → Bool} {held : Bool} {v : Value} {d : DataW H} {p : List MemPlace}
    (hv : Value.okWide Try.prog w r b0 3 v) (h : DataW.Trod enc Try.prog w base spare held 3 v d p) : ∃ n : Int, v = .int .i64 n ∧ (Lit.int .i64 n).wf = true := by
  obtain ⟨n, rfl, _, _, hw⟩ := open_int Try.underlying3 hv h
  exact ⟨n, rfl, hw⟩
end Go.Proofs.Ytnnabfjlmenmgaa
/- Arguments that are tables or lists of contexts, as a claim reads them; what the second form's bound gives. -/
namespace Go.Proofs.Ytnnabfjlmenmgaa
set_option linter.unusedVariables false
open Go.ChangeShapes Go.WideShapes Go.ChangeAt Go.RowKit Go.Deep

theorem bulk_one {H : Type} (d : DataW H) : 1 ≤ Rows.uptoBulk d := by
  cases d with
  | lit l => cases l <;> simp [Rows.uptoBulk]
  | nil => simp [Rows.uptoBulk]
  | ptr d => simp [Rows.uptoBulk]
  | slice elems spare => simp [Rows.uptoBulk]
  | agg parts => simp [Rows.uptoBulk]
  | iface t d => simp [Rows.uptoBulk]
  | map entries => simp [Rows.uptoBulk]
  | held h => simp [Rows.uptoBulk]
theorem bulk_len {H : Type} (l : List (DataW H)) : l.length ≤ Rows.uptoBulkAll l := by
  induction l with
  | nil => simp [Rows.uptoBulkAll]
  | cons x r ih => have := bulk_one x; simp only [Rows.uptoBulkAll, List.length_cons]; omega
theorem bulk_slice {H : Type} (elems spare : List (DataW H)) : elems.length + 1 ≤ Rows.uptoBulk (.slice elems spare) := by
  have h1 := bulk_len elems
  simp only [Rows.uptoBulk]
  omega
theorem bulk_part {H : Type} {d : DataW H} {l : List (DataW H)} (h : d ∈ l) : Rows.uptoBulk d ≤ Rows.uptoBulkAll l := by
  induction l with
  | nil => cases h
  | cons x r ih =>
    simp only [Rows.uptoBulkAll]
    cases List.mem_cons.1 h with
    | inl e => subst e; omega
    | inr e => have := ih e; omega

set_option maxRecDepth 100000 in
theorem open_cel {H : Type} {enc : TypeId × Value → H} {w : World} {base n : Nat} {spare : Nat → Bool} {held : Bool} {cs : List Value} {x : DataW H × List MemPlace}
    (h : DataW.trod enc Try.prog w base spare held n 53 cs = some x) : ∃ y : Cel, cs = y.cells := by
  obtain ⟨xs, n', _, hx, hlen, hxl, hf⟩ := DataW.trod_struct Try.underlying53 h
  have c5 : Try.prog.cellsOf 53 = 5 := by kernel_rfl
  have c2 : Try.prog.cellsOf 51 = 2 := by kernel_rfl
  have c1 : Try.prog.cellsOf 3 = 1 := by kernel_rfl
  rw [c5] at hlen
  match cs, hlen with
  | [u0, u1, u2, u3, u4], _ =>
    match xs, hxl with
    | [y0, y1, y2, y3], _ =>
      have h0 := hf 0 _ rfl
      have h1 := hf 1 _ rfl
      have h2 := hf 2 _ rfl
      have h3 := hf 3 _ rfl
      simp only [List.getElem_toArray, List.getElem_cons_zero, List.getElem_cons_succ, List.getElem?_cons_zero, List.getElem?_cons_succ] at h0 h1 h2 h3
      simp only [c2, c1, List.drop_zero, List.take_succ_cons, List.take_zero, List.drop_succ_cons] at h0 h1 h2 h3
      obtain ⟨a, b, e0⟩ := open_dot h0
      obtain ⟨c, e1, _⟩ := DataW.trod_int Try.underlying3 h1
      obtain ⟨d, e2, _⟩ := DataW.trod_int Try.underlying3 h2
      obtain ⟨e, e3, _⟩ := DataW.trod_int Try.underlying3 h3
      injection e0 with e0 e0'
      injection e0' with e0' _
      injection e1 with e1
      injection e2 with e2
      injection e3 with e3
      subst e0 e0' e1 e2 e3
      exact ⟨⟨(a, b), c, d, e⟩, rfl⟩

/-- A slice of things of s cells each, as the claim reads it. -/
theorem open_each {α H : Type} {f : α → List Value} {s : Nat} (hf : ∀ x, (f x).length = s) (hs : 0 < s) {Q : α → Prop} {enc : TypeId × Value → H} {w : World} {base n : Nat} {spare : Nat → Bool} {held : Bool} {cs : List Value} {x : DataW H × List MemPlace} {t e : TypeId}
    (ht : Try.prog.underlying t = some (.slice e)) (hc : Try.prog.cellsOf e = s)
    (ho : ∀ n cs y, DataW.trod enc Try.prog w base spare held n e cs = some y → ∃ z : α, Q z ∧ cs = f z)
    (h : DataW.trod enc Try.prog w base spare held n t cs = some x) :
    ∃ (A : Option Addr) (k : Nat) (l : List α), cs = [.slice A l.length k] ∧ Row w w.heap.size A (l.flatMap f) ∧ (∀ z ∈ l, Q z) ∧ l.length ≤ 9223372036854775807 ∧ l.length ≤ Rows.uptoBulk x.1 := by
  rcases open_slice ht h with ⟨rfl, hx⟩ | ⟨a, len, cap, m, n', D, Pl, rfl, hb, hl, hm, hmm, hx, hi⟩
  · exact ⟨none, 0, [], rfl, Row.nil, by simp, by simp, by simp⟩
  · by_cases h0 : len = 0
    · subst h0
      exact ⟨some a, cap, [], rfl, Row.nil, by simp, by simp, by simp⟩
    · have hlm : len ≤ m := by rw [hmm]; split <;> omega
      have hd : ∀ i, i < len → ∃ z : α, Q z ∧ ∀ j u, (f z)[j]? = some u → w.cell? ((a.add (i * s)).add j) = some u := by
        intro i hil
        obtain ⟨cs', hc', ht'⟩ := hi i (by omega)
        obtain ⟨z, hq, rfl⟩ := ho _ _ _ ht'
        rw [hc] at hc'
        obtain ⟨_, _, hat⟩ := World.cells?_some hc'
        refine ⟨z, hq, fun j u hu => ?_⟩
        have hj : j < s := by
          rcases Nat.lt_or_ge j s with q | q
          · exact q
          · rw [List.getElem?_eq_none (by rw [hf]; exact q)] at hu; cases hu
        rw [hat j hj]; exact hu
      obtain ⟨b, off, spot⟩ := a
      obtain ⟨z0, _, hz0⟩ := hd 0 (by omega)
      have hu0 : (f z0)[0]? = some ((f z0)[0]'(by rw [hf]; exact hs)) := List.getElem?_eq_getElem _
      have hx0 := hz0 0 _ hu0
      have hspot : spot = none := by simpa [Addr.add] using World.cell?_spot hx0
      subst hspot
      have hblk : b < w.heap.size := World.block_lt_of_cell? _ _ (by simpa [Addr.add] using hx0)
      obtain ⟨l, hll, hql, hr⟩ := Row.of_each hf (w := w) (b := b) (off := off) (n := len) hblk (Q := Q) (fun i hil => by
        obtain ⟨z, hq, hz⟩ := hd i hil
        refine ⟨z, hq, fun j u hu => ?_⟩
        have := hz j u hu
        rw [add_none, add_none, Nat.add_assoc] at this
        exact this)
      subst hll
      refine ⟨some ⟨b, off, none⟩, cap, l, rfl, hr, hql, ?_, ?_⟩
      · simp only [maxLen] at hm
        omega
      · rw [hx]
        have := bulk_slice ((List.range l.length).map D) ((List.range (m - l.length)).map fun j => D (l.length + j))
        simp only [List.length_map, List.length_range] at this
        simp only
        omega

set_option maxRecDepth 100000 in
theorem open_tab_cells {H : Type} {enc : TypeId × Value → H} {w : World} {base n : Nat} {spare : Nat → Bool} {held : Bool} {cs : List Value} {x : DataW H × List MemPlace}
    (h : DataW.trod enc Try.prog w base spare held n 28 cs = some x) :
    ∃ (t : Tab) (A : Option Addr) (k : Nat) (B : Option Addr) (m : Nat), cs = [.int .i64 t.c.c0, .int .i64 t.c.c1, .int .i64 t.c.c2, .int .i64 t.c.c3, .slice A t.c.cloud.length k, .slice B t.cells.length m] ∧
      Row w w.heap.size A (dcells t.c.cloud) ∧ t.c.cloud.length ≤ 9223372036854775807 ∧ Row w w.heap.size B (tcells t.cells) ∧ t.cells.length ≤ 9223372036854775807 := by
  obtain ⟨xs, n', _, hx, hlen, hxl, hf⟩ := DataW.trod_struct Try.underlying28 h
  have c6 : Try.prog.cellsOf 28 = 6 := by kernel_rfl
  have c5 : Try.prog.cellsOf 25 = 5 := by kernel_rfl
  have c1 : Try.prog.cellsOf 26 = 1 := by kernel_rfl
  rw [c6] at hlen
  match cs, hlen with
  | [u0, u1, u2, u3, u4, u5], _ =>
    match xs, hxl with
    | [y0, y1], _ =>
      have h0 := hf 0 _ rfl
      have h1 := hf 1 _ rfl
      simp only [List.getElem_toArray, List.getElem_cons_zero, List.getElem_cons_succ, List.getElem?_cons_zero, List.getElem?_cons_succ] at h0 h1
      simp only [c5, c1, List.drop_zero, List.take_succ_cons, List.take_zero, List.drop_succ_cons] at h0 h1
      obtain ⟨c, A, k, e0, r0, l0⟩ := open_ctx_cells h0
      obtain ⟨B, m, l, e1, r1, -, l1, -⟩ := open_each (f := Cel.cells) (Q := fun _ => True) Cel.len (by decide) Try.underlying26 (by kernel_rfl) (fun n cs y hy => by
        obtain ⟨z, e⟩ := open_cel hy
        exact ⟨z, trivial, e⟩) h1
      simp only [List.cons.injEq, and_true] at e0 e1
      obtain ⟨rfl, rfl, rfl, rfl, rfl⟩ := e0
      subst e1
      exact ⟨⟨c, l⟩, A, k, B, m, rfl, r0, l0, r1, l1⟩

set_option maxRecDepth 100000 in
theorem arg_table {H : Type} {enc : TypeId × Value → H} {w : World} {r : Reach} {b0 base : Nat} {spare : Nat → Bool} {held : Bool} {v : Value} {d : DataW H} {p : List MemPlace}
    (hv : Value.okWide Try.prog w r b0 28 v) (h : DataW.Trod enc Try.prog w base spare held 28 v d p) :
    ∃ (t : Tab) (A : Option Addr) (k : Nat) (B : Option Addr) (m : Nat), v = tval t A k B m ∧ Row w w.heap.size A (dcells t.c.cloud) ∧ t.c.cloud.length ≤ 9223372036854775807 ∧ Row w w.heap.size B (tcells t.cells) ∧ t.cells.length ≤ 9223372036854775807 := by
  obtain ⟨⟨cs⟩, rfl, _⟩ := okWide_struct Try.underlying28 hv
  obtain ⟨n, hn⟩ := h
  obtain ⟨t, A, k, B, m, e, r0, l0, r1, l1⟩ := open_tab_cells hn
  simp only [Value.cells] at e
  subst e
  exact ⟨t, A, k, B, m, rfl, r0, l0, r1, l1⟩
end Go.Proofs.Ytnnabfjlmenmgaa
