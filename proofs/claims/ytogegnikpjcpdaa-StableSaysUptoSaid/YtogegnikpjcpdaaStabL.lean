/- viewlaw.StableSays: the walk. -/
import Derived.Test.YtogegnikpjcpdaaSettled
import Derived.Test.YtogegnikpjcpdaaTabR
import Derived.Test.YtogegnikpjcpdaaCommon
import Derived.Test.YtogegnikpjcpdaaEqCel
namespace Go.Proofs.Ytogegnikpjcpdaa
set_option linter.unusedVariables false
open Go.ChangeShapes Go.WideShapes Go.ChangeAt Go.RowKit

set_option maxHeartbeats 4000000 in
set_option maxRecDepth 100000 in
theorem ssays_any (t : Tab) (A : Option Addr) (k : Nat) (B : Option Addr) (m : Nat) (L : List CR) (C : Option Addr) (n : Nat) (w : World) (ra : Row w w.heap.size A (dcells t.c.cloud)) (la : t.c.cloud.length ≤ 9223372036854775807)
    (rb : Row w w.heap.size B (tcells t.cells)) (lb : t.cells.length ≤ 9223372036854775807) (rc : RowC w w.heap.size C L) (lc : L.length ≤ 2097152) :
    Calls Try.prog 8 #[tval t A k B m, .slice C L.length n] w fun e w' => e = .returned (.bool true) ∧ Below w.heap.size w w' := by
  have HRT := hid (fun w1 (hb : Below w.heap.size w w1) => rtable_any t A k B m w1 (ra.step hb) la (rb.step hb) lb)
  have HME := hid (fun w1 (hb : Below w.heap.size w w1) => meet_any L C n w1 (rc.step hb) lc)
  have HCO := hid (fun w1 (hb : Below w.heap.size w w1) => common_all L C n w1 (rc.step hb) lc)
  have HSE := hid (fun w1 (hb : Below w.heap.size w w1) => settled_any t A k B m L C n w1 (ra.step hb) la (rb.step hb) lb (rc.step hb) lc)
  have RB := hid (fun w1 (hb : Below w.heap.size w w1) => rb.step hb)
  have hTZ := @tabI_zero t
  obtain ⟨M, hM⟩ : ∃ M, M = CR.ctxs L := ⟨_, rfl⟩
  rw [← hM] at HME HCO HSE
  clear hM
  have HXL := meetX_len M
  have hSX : settledX t M = if tabI t ≠ 0 ∨ meetE M ≠ 0 then [] else t.cells.filter (fun x => hasB (meetX M) x.d) := rfl
  have hSE : settledE t M = if tabI t ≠ 0 then tabI t else meetE M := rfl
  obtain ⟨SX, hX⟩ : ∃ SX, SX = settledX t M := ⟨_, rfl⟩
  obtain ⟨SE, hE⟩ : ∃ SE, SE = settledE t M := ⟨_, rfl⟩
  rw [← hX] at hSX HSE
  rw [← hE] at hSE HSE
  clear hX hE
  obtain ⟨T, hT⟩ : ∃ T, T = tabI t := ⟨_, rfl⟩
  rw [← hT] at HRT hSX hSE hTZ
  obtain ⟨E, hE⟩ : ∃ E, E = meetE M := ⟨_, rfl⟩
  obtain ⟨X, hX⟩ : ∃ X, X = meetX M := ⟨_, rfl⟩
  rw [← hE, ← hX] at HME HCO
  rw [← hE] at hSX hSE
  rw [← hX] at hSX HXL
  have HSX := hid hSX
  have HSE1 := hid hSE
  have HTZ := hid hTZ
  clear hSX hSE hT hE hX ra rb rc hTZ
  obtain ⟨⟨c0, c1, c2, c3, cl⟩, l⟩ := t
  obtain ⟨i1, hi0, hz0, hz1, hz2⟩ := info_parts info_cel
  simp only [tval] at *
  go_enter Try.func8, Try.ntmps8
  go_wp2_with fail
  refine (HME.out _ (by (repeat' (first | (with_reducible exact Below.refl _ _) | (with_reducible assumption) | (with_reducible refine below_drewN ?_ _) | (with_reducible refine Below.drew ?_) | (with_reducible refine Below.alloc ?_ ?_ _) | (with_reducible refine Below.setCell ?_ ?_ _) | (refine Below.trans ?_ (Below.mono (by assumption) ?_)) | go_size)))).mono ?_
  rintro e w1 ⟨A1, k1, rfl, hr1, hb1, hn1⟩
  have HBZ := hid (show Below w.heap.size w w1 from (by refine Below.step' ?_ hb1; (repeat' (first | (with_reducible exact Below.refl _ _) | (with_reducible assumption) | (with_reducible refine below_drewN ?_ _) | (with_reducible refine Below.drew ?_) | (with_reducible refine Below.alloc ?_ ?_ _) | (with_reducible refine Below.setCell ?_ ?_ _) | (refine Below.trans ?_ (Below.mono (by assumption) ?_)) | go_size))))
  have HXT := hid (Blk.step (Blk.new w #[.int .i64 c0, .int .i64 c1, .int .i64 c2, .int .i64 c3, .slice A cl.length k, .slice B l.length m] 59) hb1)
  have HR1 := hid hr1
  clear hb1 hr1 hn1
  simp only [cval]
  go_wp2_with fail
  refine (HCO.out _ (HBZ.out.alloc HBZ.out.size _)).mono ?_
  rintro e w2 ⟨A2, k2, rfl, hr2, hb2, hn2⟩
  have hB2 : Below w1.heap.size w1 w2 := (by refine Below.step' ?_ hb2; (repeat' (first | (with_reducible exact Below.refl _ _) | (with_reducible assumption) | (with_reducible refine below_drewN ?_ _) | (with_reducible refine Below.drew ?_) | (with_reducible refine Below.alloc ?_ ?_ _) | (with_reducible refine Below.setCell ?_ ?_ _) | (refine Below.trans ?_ (Below.mono (by assumption) ?_)) | go_size)))
  have HX5 := hid (Blk.step (Blk.new w1 (cbox X A1 k1) 25) hb2)
  replace HXT := hid (HXT.out.step hB2)
  replace HR1 := hid (HR1.out.step hB2)
  replace HBZ := hid (Below.step' HBZ.out hB2)
  have HR2 := hid hr2
  clear hb2 hB2 hr2 hn2
  simp only [cval]
  obtain ⟨cHXT, fHXT, sHXT, nHXT⟩ := HXT.out.all
  try simp only [cbox] at cHXT
  go_wp2_with fail
  refine (HRT.out _ (HBZ.out.alloc HBZ.out.size _)).mono ?_
  rintro e w3 ⟨rfl, hb3⟩
  have hB3 : Below w2.heap.size w2 w3 := (by refine Below.step' ?_ hb3; (repeat' (first | (with_reducible exact Below.refl _ _) | (with_reducible assumption) | (with_reducible refine below_drewN ?_ _) | (with_reducible refine Below.drew ?_) | (with_reducible refine Below.alloc ?_ ?_ _) | (with_reducible refine Below.setCell ?_ ?_ _) | (refine Below.trans ?_ (Below.mono (by assumption) ?_)) | go_size)))
  have HX7 := hid (Blk.step (Blk.new w2 (cbox X A2 k2) 25) hb3)
  clear cHXT fHXT sHXT nHXT
  replace HXT := hid (HXT.out.step hB3)
  replace HX5 := hid (HX5.out.step hB3)
  replace HR1 := hid (HR1.out.step hB3)
  replace HR2 := hid (HR2.out.step hB3)
  replace HBZ := hid (Below.step' HBZ.out hB3)
  clear hb3 hB3
  by_cases q : T = 0
  rotate_left
  · have q2 : (T == 0) = false := by simpa using q
    have e1 := HSX.out
    have e2 := HSE1.out
    rw [if_pos (.inl q)] at e1
    rw [if_pos q] at e2
    subst e1 e2
    have HRW := hid (show Row w3 w3.heap.size none (tcells []) from Row.nil)
    clear q HSX HSE1 HTZ
    obtain ⟨SX, hSX⟩ : ∃ SX : List Cel, SX = [] := ⟨_, rfl⟩
    rw [← hSX] at HRW HSE
    have HSX0 := hid hSX
    have HSXL : SX.length ≤ 400 := by rw [hSX]; simp
    clear hSX
    obtain ⟨cHXT, fHXT, sHXT, nHXT⟩ := HXT.out.all
    try simp only [cbox] at cHXT
    go_wp2_with fail
    refine (HSE.out _ HBZ.out).mono ?_
    rintro e w8 ⟨v8, rfl, hown8, hb8⟩
    obtain ⟨A7, c7, rfl⟩ := own_formS hown8
    clear cHXT fHXT sHXT nHXT
    replace HX5 := hid (HX5.out.step hb8)
    replace HX7 := hid (HX7.out.step hb8)
    replace HR1 := hid (HR1.out.step hb8)
    replace HR2 := hid (HR2.out.step hb8)
    replace HRW := hid (HRW.out.step hb8)
    replace HBZ := hid (Below.step' HBZ.out hb8)
    have HR8 := hid (Row.of_ownS hown8)
    clear hown8 hb8
    have HSM := hid (fun w9 (hb : Below w8.heap.size w8 w9) => same_ints X.c0 X.c1 X.c2 X.c3 X.c0 X.c1 X.c2 X.c3 X.cloud X.cloud A1 A2 k1 k2 w9 (HR1.out.step hb) (HR2.out.step hb) (by omega) (by omega))
    rw [show sameB ⟨X.c0, X.c1, X.c2, X.c3, X.cloud⟩ ⟨X.c0, X.c1, X.c2, X.c3, X.cloud⟩ = true from (sameB_iff _ _).2 rfl] at HSM
    have HEQ := hid (fun w9 (hb : Below w8.heap.size w8 w9) => equalT_any SX SX A7 none c7 0 w9 (HR8.out.step hb) (HRW.out.step hb) (by omega) (by omega))
    rw [show decide (SX = SX) = true from by simp] at HEQ
    rw [HSX0.out] at HEQ ⊢
    obtain ⟨cHX5, fHX5, sHX5, nHX5⟩ := HX5.out.all
    try simp only [cbox] at cHX5
    obtain ⟨cHX7, fHX7, sHX7, nHX7⟩ := HX7.out.all
    try simp only [cbox] at cHX7
    go_wp2_with fail
    refine (HSM.out _ (Below.refl _ _)).mono ?_
    rintro e w9 ⟨rfl, hb9⟩
    go_wp2_with fail
    refine (HEQ.out _ hb9).mono ?_
    rintro e w10 ⟨rfl, hb10⟩
    go_wp2
    go_ret
    exact ⟨rfl, Below.step' (Below.step' HBZ.out hb9) hb10⟩
  · subst q
    have hz := HTZ.out
    have hl4 : l.length ≤ 400 := (hz rfl).2.1
    clear hz HTZ
    by_cases q : E = 0
    rotate_left
    · have q2 : (E == 0) = false := by simpa using q
      have e1 := HSX.out
      have e2 := HSE1.out
      rw [if_pos (.inr q)] at e1
      rw [if_neg (by simp)] at e2
      subst e2
      have HRW := hid (show Row w3 w3.heap.size none (tcells SX) by rw [e1]; exact Row.nil)
      have HSX0 := hid e1
      have HSXL : SX.length ≤ 400 := by rw [e1]; simp
      clear q HSX HSE1 e1
      obtain ⟨cHXT, fHXT, sHXT, nHXT⟩ := HXT.out.all
      try simp only [cbox] at cHXT
      go_wp2_with fail
      refine (HSE.out _ HBZ.out).mono ?_
      rintro e w8 ⟨v8, rfl, hown8, hb8⟩
      obtain ⟨A7, c7, rfl⟩ := own_formS hown8
      clear cHXT fHXT sHXT nHXT
      replace HX5 := hid (HX5.out.step hb8)
      replace HX7 := hid (HX7.out.step hb8)
      replace HR1 := hid (HR1.out.step hb8)
      replace HR2 := hid (HR2.out.step hb8)
      replace HRW := hid (HRW.out.step hb8)
      replace HBZ := hid (Below.step' HBZ.out hb8)
      have HR8 := hid (Row.of_ownS hown8)
      clear hown8 hb8
      have HSM := hid (fun w9 (hb : Below w8.heap.size w8 w9) => same_ints X.c0 X.c1 X.c2 X.c3 X.c0 X.c1 X.c2 X.c3 X.cloud X.cloud A1 A2 k1 k2 w9 (HR1.out.step hb) (HR2.out.step hb) (by omega) (by omega))
      rw [show sameB ⟨X.c0, X.c1, X.c2, X.c3, X.cloud⟩ ⟨X.c0, X.c1, X.c2, X.c3, X.cloud⟩ = true from (sameB_iff _ _).2 rfl] at HSM
      have HEQ := hid (fun w9 (hb : Below w8.heap.size w8 w9) => equalT_any SX SX A7 none c7 0 w9 (HR8.out.step hb) (HRW.out.step hb) (by omega) (by omega))
      rw [show decide (SX = SX) = true from by simp] at HEQ
      rw [HSX0.out] at HEQ ⊢
      obtain ⟨cHX5, fHX5, sHX5, nHX5⟩ := HX5.out.all
      try simp only [cbox] at cHX5
      obtain ⟨cHX7, fHX7, sHX7, nHX7⟩ := HX7.out.all
      try simp only [cbox] at cHX7
      go_wp2_with fail
      refine (HSM.out _ (Below.refl _ _)).mono ?_
      rintro e w9 ⟨rfl, hb9⟩
      go_wp2_with fail
      refine (HEQ.out _ hb9).mono ?_
      rintro e w10 ⟨rfl, hb10⟩
      go_wp2
      go_ret
      exact ⟨rfl, Below.step' (Below.step' HBZ.out hb9) hb10⟩
    · subst q
      have e1 := HSX.out
      have e2 := HSE1.out
      rw [if_neg (by simp)] at e1 e2
      subst e2
      have E1 := hid e1
      have HSXL : SX.length ≤ 400 := by rw [e1]; exact Nat.le_trans (List.length_filter_le _ _) hl4
      clear e1 HSX HSE1
      obtain ⟨cHXT, fHXT, sHXT, nHXT⟩ := HXT.out.all
      try simp only [cbox] at cHXT
      go_wp2
      clear cHXT fHXT sHXT nHXT
      have HH := hid (fun w1 (hb : Below w3.heap.size w3 w1) d => Rhas_any X d A2 k2 w1 (HR2.out.step hb) (by omega))
      simp only [cval, dval] at HH
      go_loopw [9, 35] (fun s9 s35 wr => ∃ i : Nat, i ≤ l.length ∧ s35 = .int .i64 i ∧ wr.ownsRow w3.heap.size 62 5 s9 ((l.take i).filter (fun x => hasB X x.d)).length (tcells ((l.take i).filter (fun x => hasB X x.d))) ∧ Below w3.heap.size w3 wr) (fun _ s35 _ => l.length - (intOf s35).toNat)
      case atStart => exact ⟨0, by omega, rfl, by simpa using World.ownsRow_nil _ _ _ _, Below.refl _ _⟩
      case round =>
        obtain ⟨i, hi, rfl, hown, hbw⟩ := hrel
        have hst : ∀ hj : i < l.length, (l.take (i + 1)).filter (fun x => hasB X x.d) = (l.take i).filter (fun x => hasB X x.d) ++ (if hasB X l[i].d = true then [l[i]] else []) := by
          intro hj
          rw [List.take_succ_eq_append_getElem hj, List.filter_append, List.filter_cons, List.filter_nil]
        have hol : ((l.take i).filter (fun x => hasB X x.d)).length ≤ 400 := by
          have := List.length_filter_le (fun x : Cel => hasB X x.d) (l.take i)
          rw [List.length_take] at this
          omega
        have hfin : ¬ i < l.length → (l.take i).filter (fun x => hasB X x.d) = SX := fun h => by rw [E1.out, List.take_of_length_le (by omega)]
        obtain ⟨O, hO⟩ : ∃ O, O = (l.take i).filter (fun x => hasB X x.d) := ⟨_, rfl⟩
        rw [← hO] at hown hst hol hfin
        clear hO
        obtain ⟨A8, c8, rfl⟩ := own_formS hown
        have hB := Below.step' HBZ.out hbw
        have HOWN := hid hown
        have HBW := hid hbw
        have HXR := hid (HX7.out.step hbw)
        have HBB := hid hB
        have HFIN := hid hfin
        clear hown hbw hB hfin
        by_cases hlt : i < l.length
        · obtain ⟨b, off, hA, hb, e0, e1, e2, e3, e4⟩ := (RB.out wr HBB.out).cel hlt
          subst hA
          have HST := hid (hst hlt)
          clear hst
          generalize l[i] = x at *
          obtain ⟨⟨d0, d1⟩, key, col, val⟩ := x
          simp only at e0 e1 e2 e3 e4
          have hneb : (b = wr.heap.size) = False := by simp; omega
          have hh := fun w1 (hb : Below w3.heap.size w3 w1) => HH.out w1 hb (d0, d1)
          cases hq : hasB X (d0, d1)
          all_goals
            rw [hq] at hh
            have HHQ := hid hh
            have HQ := hid hq
            clear hh hq
            obtain ⟨cHXR, fHXR, sHXR, nHXR⟩ := HXR.out.all
            try simp only [cbox] at cHXR
            go_wp2_with fail
            refine (HHQ.out _ (HBW.out.alloc HBW.out.size _)).mono ?_
            rintro e w5 ⟨rfl, hb5⟩
            have hB5 : Below wr.heap.size wr w5 := (by refine Below.step' ?_ hb5; (repeat' (first | (with_reducible exact Below.refl _ _) | (with_reducible assumption) | (with_reducible refine below_drewN ?_ _) | (with_reducible refine Below.drew ?_) | (with_reducible refine Below.alloc ?_ ?_ _) | (with_reducible refine Below.setCell ?_ ?_ _) | (refine Below.trans ?_ (Below.mono (by assumption) ?_)) | go_size)))
            have HOWN5 := hid (own_laterS HOWN.out hB5)
            have HB5 := hid (Below.step' HBW.out hB5)
            have hs5 := (Below.step' HBW.out hB5).size
            have HX5B := hid (Blk.step (Blk.new wr #[.int .i64 d0, .int .i64 d1, .int .i64 key, .int .i64 col, .int .i64 val] 62) hb5)
            clear hb5 hB5 e0 e1 e2 e3 e4 hneb hb
            clear cHXR fHXR sHXR nHXR
          · go_wp2
            go_roundw
            case rel => exact ⟨i + 1, by omega, by go_num, by rw [HST.out, HQ.out, if_neg (by simp), List.append_nil]; exact HOWN5.out, HB5.out⟩
            case measure => simp [intOf]; omega
          · skip
            obtain ⟨cHX5B, fHX5B, sHX5B, nHX5B⟩ := HX5B.out.all
            try simp only [cbox] at cHX5B
            go_wp2_with (at_builtin; refine wpList_append_own _ rfl _ _ 57 rfl w3.heap.size 62 i1 _ 5 40 Try.underlying57 hi0 hz0 hz1 hz2 rfl (by decide) _ _ _ rfl (HOWN5.out.alloc _) ⟨w5.heap.size, 0, none⟩ 1 1 (tcells [⟨(d0, d1), key, col, val⟩]) rfl rfl (newsT w5 ⟨(d0, d1), key, col, val⟩ _ _ rfl) (tcells_one _) ?_ ?_ ?_ ?_; rotate_right; intro v6 w6 hown6 hg6 _; rotate_left; (simp only [maxLen]; omega); (omega); (simp; omega))
            go_roundw
            case rel =>
              refine ⟨i + 1, by omega, by go_num, ?_, (HB5.out.alloc (by omega) _).grown hg6 (by simp; omega) (fun g e => (HOWN5.out.lt g e).1)⟩
              rw [HST.out, HQ.out, if_pos rfl, tcells_snoc]
              simpa using hown6
            case measure => simp [intOf]; omega
        · have e := HFIN.out hlt
          have HRW := hid (Row.of_ownS HOWN.out)
          rw [e] at HRW ⊢
          have hbw := HBW.out
          replace HBZ := HBB
          clear hst HFIN HOWN HXR e
          replace HXT := hid (HXT.out.step hbw)
          replace HX5 := hid (HX5.out.step hbw)
          replace HX7 := hid (HX7.out.step hbw)
          replace HR1 := hid (HR1.out.step hbw)
          replace HR2 := hid (HR2.out.step hbw)
          clear hbw HBW
          obtain ⟨cHXT, fHXT, sHXT, nHXT⟩ := HXT.out.all
          try simp only [cbox] at cHXT
          go_wp2_with fail
          refine (HSE.out _ HBZ.out).mono ?_
          rintro e w8 ⟨v8, rfl, hown8, hb8⟩
          obtain ⟨A7, c7, rfl⟩ := own_formS hown8
          clear cHXT fHXT sHXT nHXT
          replace HX5 := hid (HX5.out.step hb8)
          replace HX7 := hid (HX7.out.step hb8)
          replace HR1 := hid (HR1.out.step hb8)
          replace HR2 := hid (HR2.out.step hb8)
          replace HRW := hid (HRW.out.step hb8)
          replace HBZ := hid (Below.step' HBZ.out hb8)
          have HR8 := hid (Row.of_ownS hown8)
          clear hown8 hb8
          have HSM := hid (fun w9 (hb : Below w8.heap.size w8 w9) => same_ints X.c0 X.c1 X.c2 X.c3 X.c0 X.c1 X.c2 X.c3 X.cloud X.cloud A1 A2 k1 k2 w9 (HR1.out.step hb) (HR2.out.step hb) (by omega) (by omega))
          rw [show sameB ⟨X.c0, X.c1, X.c2, X.c3, X.cloud⟩ ⟨X.c0, X.c1, X.c2, X.c3, X.cloud⟩ = true from (sameB_iff _ _).2 rfl] at HSM
          have HEQ := hid (fun w9 (hb : Below w8.heap.size w8 w9) => equalT_any SX SX A7 A8 c7 c8 w9 (HR8.out.step hb) (HRW.out.step hb) (by omega) (by omega))
          rw [show decide (SX = SX) = true from by simp] at HEQ
          skip
          obtain ⟨cHX5, fHX5, sHX5, nHX5⟩ := HX5.out.all
          try simp only [cbox] at cHX5
          obtain ⟨cHX7, fHX7, sHX7, nHX7⟩ := HX7.out.all
          try simp only [cbox] at cHX7
          go_wp2_with fail
          refine (HSM.out _ (Below.refl _ _)).mono ?_
          rintro e w9 ⟨rfl, hb9⟩
          go_wp2_with fail
          refine (HEQ.out _ hb9).mono ?_
          rintro e w10 ⟨rfl, hb10⟩
          go_wp2
          go_ret
          exact ⟨rfl, Below.step' (Below.step' HBZ.out hb9) hb10⟩
end Go.Proofs.Ytogegnikpjcpdaa
