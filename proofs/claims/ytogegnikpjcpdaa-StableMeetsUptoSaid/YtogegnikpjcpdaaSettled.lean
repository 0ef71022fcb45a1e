/- stable.Settled. -/
import Derived.Test.YtogegnikpjcpdaaTabC
import Derived.Test.YtogegnikpjcpdaaMeetB
import Derived.Test.YtogegnikpjcpdaaOwn
namespace Go.Proofs.Ytogegnikpjcpdaa
set_option linter.unusedVariables false
open Go.ChangeShapes Go.WideShapes Go.ChangeAt Go.RowKit

theorem tabI_zero {t : Tab} (h : tabI t = 0) : checkI t.c = 0 ∧ t.cells.length ≤ 400 ∧ ∀ i, i < t.cells.length → badCel t i = false := by
  have h1 : checkI t.c = 0 := by
    rcases Classical.em (checkI t.c = 0) with q | q
    · exact q
    · rw [tabI_ctx q] at h; exact absurd h q
  have h2 : t.cells.length ≤ 400 := by
    rcases Nat.lt_or_ge 400 t.cells.length with q | q
    · rw [tabI_large h1 q] at h; cases h
    · exact q
  refine ⟨h1, h2, fun i hi => ?_⟩
  cases q : badCel t i
  · rfl
  · rw [tabI_form h1 h2 hi q] at h; cases h
theorem meetX_len (M : List Ctx) : (meetX M).cloud.length ≤ 400 := by
  unfold meetX
  split
  · simp
  · rename_i h; simp only [not_or] at h; omega

def settledX (t : Tab) (M : List Ctx) : List Cel := if tabI t ≠ 0 ∨ meetE M ≠ 0 then [] else t.cells.filter (fun x => hasB (meetX M) x.d)
def settledE (t : Tab) (M : List Ctx) : Int := if tabI t ≠ 0 then tabI t else meetE M

set_option maxHeartbeats 4000000 in
set_option maxRecDepth 100000 in
theorem settled_any (t : Tab) (A : Option Addr) (k : Nat) (B : Option Addr) (m : Nat) (L : List CR) (C : Option Addr) (n : Nat) (w : World) (ra : Row w w.heap.size A (dcells t.c.cloud)) (la : t.c.cloud.length ≤ 9223372036854775807)
    (rb : Row w w.heap.size B (tcells t.cells)) (lb : t.cells.length ≤ 9223372036854775807) (rc : RowC w w.heap.size C L) (lc : L.length ≤ 2097152) :
    Calls Try.prog 41 #[tval t A k B m, .slice C L.length n] w (CelsErr (settledX t (CR.ctxs L)) (settledE t (CR.ctxs L)) w) := by
  have HTC := hid (fun w1 (hb : Below w.heap.size w w1) => tcheck_any t A k B m w1 (ra.step hb) la (rb.step hb) lb)
  have HME := hid (fun w1 (hb : Below w.heap.size w w1) => meet_any L C n w1 (rc.step hb) lc)
  have RB := hid (fun w1 (hb : Below w.heap.size w w1) => rb.step hb)
  have hTZ := @tabI_zero t
  obtain ⟨M, hM⟩ : ∃ M, M = CR.ctxs L := ⟨_, rfl⟩
  rw [← hM] at HME ⊢
  clear hM
  have HXL := meetX_len M
  have hSX : settledX t M = if tabI t ≠ 0 ∨ meetE M ≠ 0 then [] else t.cells.filter (fun x => hasB (meetX M) x.d) := rfl
  have hSE : settledE t M = if tabI t ≠ 0 then tabI t else meetE M := rfl
  obtain ⟨SX, hX⟩ : ∃ SX, SX = settledX t M := ⟨_, rfl⟩
  obtain ⟨SE, hE⟩ : ∃ SE, SE = settledE t M := ⟨_, rfl⟩
  rw [← hX] at hSX ⊢
  rw [← hE] at hSE ⊢
  clear hX hE
  obtain ⟨T, hT⟩ : ∃ T, T = tabI t := ⟨_, rfl⟩
  rw [← hT] at HTC hSX hSE hTZ
  obtain ⟨E, hE⟩ : ∃ E, E = meetE M := ⟨_, rfl⟩
  obtain ⟨X, hX⟩ : ∃ X, X = meetX M := ⟨_, rfl⟩
  rw [← hE, ← hX] at HME
  rw [← hE] at hSX hSE
  rw [← hX] at hSX HXL
  have HSX := hid hSX
  have HSE := hid hSE
  have HTZ := hid hTZ
  clear hSX hSE hT hE hX ra rb rc hTZ
  obtain ⟨⟨c0, c1, c2, c3, cl⟩, l⟩ := t
  obtain ⟨i1, hi0, hz0, hz1, hz2⟩ := info_parts info_cel
  simp only [tval] at *
  go_enter Try.func41, Try.ntmps41
  go_wp2_with fail
  refine (HTC.out _ (by (repeat' (first | (with_reducible exact Below.refl _ _) | (with_reducible assumption) | (with_reducible refine below_drewN ?_ _) | (with_reducible refine Below.drew ?_) | (with_reducible refine Below.alloc ?_ ?_ _) | (with_reducible refine Below.setCell ?_ ?_ _) | (refine Below.trans ?_ (Below.mono (by assumption) ?_)) | go_size)))).mono ?_
  rintro e w1 ⟨rfl, hb1⟩
  have HBW := hid (show Below w.heap.size w w1 from (by refine Below.step' ?_ hb1; (repeat' (first | (with_reducible exact Below.refl _ _) | (with_reducible assumption) | (with_reducible refine below_drewN ?_ _) | (with_reducible refine Below.drew ?_) | (with_reducible refine Below.alloc ?_ ?_ _) | (with_reducible refine Below.setCell ?_ ?_ _) | (refine Below.trans ?_ (Below.mono (by assumption) ?_)) | go_size))))
  have HXT := hid (Blk.step (Blk.new w #[.int .i64 c0, .int .i64 c1, .int .i64 c2, .int .i64 c3, .slice A cl.length k, .slice B l.length m] 59) hb1)
  clear hb1
  by_cases q : T = 0
  rotate_left
  · have q2 : (T != 0) = true := by simpa using q
    have e1 := HSX.out
    have e2 := HSE.out
    rw [if_pos (.inl q)] at e1
    rw [if_pos q] at e2
    have E1 := hid e1
    have E2 := hid e2
    clear q e1 e2
    go_wp2
    go_ret2
    exact ⟨_, ret_vi E2.out.symm, by rw [E1.out]; exact World.ownsRow_nil _ _ _ _, HBW.out⟩
  · subst q
    have hz := HTZ.out
    have hl4 : l.length ≤ 400 := (hz rfl).2.1
    clear hz HTZ
    go_wp2_with fail
    refine (HME.out _ HBW.out).mono ?_
    rintro e w2 ⟨A2, k2, rfl, hr2, hb2, hn2⟩
    replace HXT := hid (HXT.out.step hb2)
    replace HBW := hid (Below.step' HBW.out hb2)
    have HR2 := hid hr2
    clear hb2 hr2 hn2
    by_cases q : E = 0
    rotate_left
    · have q2 : (E != 0) = true := by simpa using q
      have e1 := HSX.out
      have e2 := HSE.out
      rw [if_pos (.inr q)] at e1
      rw [if_neg (by simp)] at e2
      have E1 := hid e1
      have E2 := hid e2
      clear q e1 e2
      simp only [cval]
      go_wp2
      go_ret2
      exact ⟨_, ret_vi E2.out.symm, by rw [E1.out]; exact World.ownsRow_nil _ _ _ _, HBW.out.alloc HBW.out.size _⟩
    · subst q
      have e1 := HSX.out
      have e2 := HSE.out
      rw [if_neg (by simp)] at e1 e2
      have E1 := hid e1
      have E2 := hid e2
      clear e1 e2 HSX HSE
      have hsw := HBW.out.size
      simp only [cval]
      obtain ⟨cHXT, fHXT, sHXT, nHXT⟩ := HXT.out.all
      try simp only [cbox] at cHXT
      go_wp2
      clear cHXT fHXT sHXT nHXT
      obtain ⟨P, hP⟩ : ∃ P, P = w2.heap.size := ⟨_, rfl⟩
      obtain ⟨W2, hW2⟩ : ∃ W2 : World, W2 = w2.alloc (.cells #[.int .i64 X.c0, .int .i64 X.c1, .int .i64 X.c2, .int .i64 X.c3, .slice A2 X.cloud.length k2] 25) := ⟨_, rfl⟩
      rw [← hW2, ← hP]
      have HXX := hid (show Blk W2 P (cbox X A2 k2) 25 by rw [hW2, hP]; exact Blk.new _ _ _)
      have HB2 := hid (show Below w.heap.size w W2 by rw [hW2]; exact HBW.out.alloc HBW.out.size _)
      have HRX := hid (show Row W2 W2.heap.size A2 (dcells X.cloud) by rw [hW2]; exact HR2.out.alloc _)
      clear hW2 hP HR2 HBW HXT HTC HME
      have HH := hid (fun w1 (hb : Below W2.heap.size W2 w1) d => has_any X d A2 k2 w1 (HRX.out.step hb) (by omega))
      simp only [cval, dval] at HH
      go_loopw [9, 28] (fun s9 s28 wr => ∃ i : Nat, i ≤ l.length ∧ s28 = .int .i64 i ∧ wr.ownsRow W2.heap.size 62 5 s9 ((l.take i).filter (fun x => hasB X x.d)).length (tcells ((l.take i).filter (fun x => hasB X x.d))) ∧ Below W2.heap.size W2 wr) (fun _ s28 _ => l.length - (intOf s28).toNat)
      case atStart => exact ⟨0, by omega, rfl, by simpa using World.ownsRow_nil _ _ _ _, Below.refl _ _⟩
      case round =>
        obtain ⟨i, hi, rfl, hown, hbw⟩ := hrel
        have hst : ∀ hj : i < l.length, (l.take (i + 1)).filter (fun x => hasB X x.d) = (l.take i).filter (fun x => hasB X x.d) ++ (if hasB X l[i].d = true then [l[i]] else []) := by
          intro hj
          rw [List.take_succ_eq_append_getElem hj, List.filter_append, List.filter_cons, List.filter_nil]
        have hol : ((l.take i).filter (fun x => hasB X x.d)).length ≤ 400 := by
          have := List.length_filter_le (fun x : Cel => hasB X x.d) (l.take i)
          rw [List.length_take] at this
          omega
        have hfin : ¬ i < l.length → (l.take i).filter (fun x => hasB X x.d) = SX := fun h => by rw [E1.out, List.take_of_length_le (by omega)]
        obtain ⟨O, hO⟩ : ∃ O, O = (l.take i).filter (fun x => hasB X x.d) := ⟨_, rfl⟩
        rw [← hO] at hown hst hol hfin
        clear hO
        obtain ⟨A8, c8, rfl⟩ := own_formS hown
        have hB := Below.step' HB2.out hbw
        have HOWN := hid hown
        have HBW := hid hbw
        have HXR := hid (HXX.out.step hbw)
        have HBB := hid hB
        have HFIN := hid hfin
        clear hown hbw hB hfin
        by_cases hlt : i < l.length
        · obtain ⟨b, off, hA, hb, e0, e1, e2, e3, e4⟩ := (RB.out wr HBB.out).cel hlt
          subst hA
          have HST := hid (hst hlt)
          clear hst
          generalize l[i] = x at *
          obtain ⟨⟨d0, d1⟩, key, col, val⟩ := x
          simp only at e0 e1 e2 e3 e4
          have hneb : (b = wr.heap.size) = False := by simp; omega
          have hh := fun w1 (hb : Below W2.heap.size W2 w1) => HH.out w1 hb (d0, d1)
          cases hq : hasB X (d0, d1)
          all_goals
            rw [hq] at hh
            have HHQ := hid hh
            have HQ := hid hq
            clear hh hq
            obtain ⟨cHXR, fHXR, sHXR, nHXR⟩ := HXR.out.all
            try simp only [cbox] at cHXR
            go_wp2_with fail
            refine (HHQ.out _ (HBW.out.alloc HBW.out.size _)).mono ?_
            rintro e w5 ⟨rfl, hb5⟩
            have hB5 : Below wr.heap.size wr w5 := (by refine Below.step' ?_ hb5; (repeat' (first | (with_reducible exact Below.refl _ _) | (with_reducible assumption) | (with_reducible refine below_drewN ?_ _) | (with_reducible refine Below.drew ?_) | (with_reducible refine Below.alloc ?_ ?_ _) | (with_reducible refine Below.setCell ?_ ?_ _) | (refine Below.trans ?_ (Below.mono (by assumption) ?_)) | go_size)))
            have HOWN5 := hid (own_laterS HOWN.out hB5)
            have HB5 := hid (Below.step' HBW.out hB5)
            have hs5 := (Below.step' HBW.out hB5).size
            have HX5 := hid (Blk.step (Blk.new wr #[.int .i64 d0, .int .i64 d1, .int .i64 key, .int .i64 col, .int .i64 val] 62) hb5)
            clear hb5 hB5 e0 e1 e2 e3 e4 hneb hb
            clear cHXR fHXR sHXR nHXR
          · go_wp2
            go_roundw
            case rel => exact ⟨i + 1, by omega, by go_num, by rw [HST.out, HQ.out, if_neg (by simp), List.append_nil]; exact HOWN5.out, HB5.out⟩
            case measure => simp [intOf]; omega
          · skip
            obtain ⟨cHX5, fHX5, sHX5, nHX5⟩ := HX5.out.all
            try simp only [cbox] at cHX5
            go_wp2_with (at_builtin; refine wpList_append_own _ rfl _ _ 57 rfl W2.heap.size 62 i1 _ 5 40 Try.underlying57 hi0 hz0 hz1 hz2 rfl (by decide) _ _ _ rfl (HOWN5.out.alloc _) ⟨w5.heap.size, 0, none⟩ 1 1 (tcells [⟨(d0, d1), key, col, val⟩]) rfl rfl (newsT w5 ⟨(d0, d1), key, col, val⟩ _ _ rfl) (tcells_one _) ?_ ?_ ?_ ?_; rotate_right; intro v6 w6 hown6 hg6 _; rotate_left; (simp only [maxLen]; omega); (omega); (simp; omega))
            go_roundw
            case rel =>
              refine ⟨i + 1, by omega, by go_num, ?_, (HB5.out.alloc (by omega) _).grown hg6 (by simp; omega) (fun g e => (HOWN5.out.lt g e).1)⟩
              rw [HST.out, HQ.out, if_pos rfl, tcells_snoc]
              simpa using hown6
            case measure => simp [intOf]; omega
        · have hs2 := HB2.out.size
          clear hst
          go_wp2
          go_ret2
          refine ⟨_, ret_vi E2.out.symm, ?_, HBB.out⟩
          have h := own_baseS HOWN.out hs2
          have e := HFIN.out hlt
          rw [← e]
          exact h
end Go.Proofs.Ytogegnikpjcpdaa
