/- RwB, QsG, ZsH, Sq, QsH -/
import Derived.Test.YtamlaeocojcgdaaDoorQueryReadsCardS12
import Derived.Deep.CutBlock
import Derived.Deep.CutRange
/- viewref.Query, viewref.Based. -/
namespace Go.Proofs.YtamlaeocojcgdaaDoor
set_option linter.unusedVariables false
set_option linter.unusedSimpArgs false
open Go.ChangeShapes Go.WideShapes Go.ChangeAt Go.RowKit

set_option maxHeartbeats 1000000 in
set_option maxRecDepth 100000 in
theorem Rquery_any (L : List SR) (A : Option Addr) (c : Nat) (w : World) (hr : RowS w w.heap.size A L) (hl : L.length ≤ 9223372036854775807) :
    Calls Tryd.prog 6 #[.slice A L.length c] w fun e w' => e = .returned (.int .i64 (queryE (sts L))) ∧ Below w.heap.size w w' := by
  have HE := hid (show queryE (sts L) = if L.length = 0 then 1 else if 8 < L.length then 2 else if widsL (sts L) [] = none then 1 else 0 by unfold queryE; rw [List.length_map])
  have HW := hid (fun h : L.length ≤ 8 => Rwidths_any L A c w hr h)
  clear hr
  obtain ⟨E, hE⟩ : ∃ q, q = queryE (sts L) := ⟨_, rfl⟩
  rw [← hE] at HE ⊢
  clear hE
  go_enter Tryd.func6, Tryd.ntmps6
  by_cases h0 : L.length = 0
  · have t1 : ((L.length : Int) == 0) = true := by simp [h0]
    have HD := hid (show E = 1 by rw [HE.out, if_pos h0])
    clear h0
    go_wp2_with fail
    go_ret
    exact ⟨ret_int HD.out.symm, Below.refl _ _⟩
  have t1 : ((L.length : Int) == 0) = false := by simpa using h0
  by_cases h8 : 8 < L.length
  · have t2 : ((8 : Int) < (L.length : Int)) = True := eq_true (by omega)
    have HD := hid (show E = 2 by rw [HE.out, if_neg h0, if_pos h8])
    clear h0 h8
    go_wp2_with fail
    go_ret
    exact ⟨ret_int HD.out.symm, Below.refl _ _⟩
  have t2 : ((8 : Int) < (L.length : Int)) = False := eq_false (by omega)
  have HD := hid (show E = if widsL (sts L) [] = none then 1 else 0 by rw [HE.out, if_neg h0, if_neg h8])
  have HC := hid (HW.out (by omega))
  clear h0 h8 HW HE
  go_wp2_with fail
  -- STOP-a
  refine HC.out.mono ?_
  rintro e w1 ⟨hb1, (⟨hn, rfl⟩ | ⟨V, v, hn, rfl, -⟩)⟩
  · have HB := hid hb1
    have HF := hid (show E = 1 by rw [HD.out, if_pos hn])
    clear hb1 hn HC
    go_wp2_with fail
    go_ret
    exact ⟨ret_int HF.out.symm, HB.out⟩
  · have HB := hid hb1
    have HF := hid (show E = 0 by rw [HD.out, hn, if_neg (by simp)])
    clear hb1 hn HC
    go_wp2_with fail
    go_ret
    exact ⟨ret_int HF.out.symm, HB.out⟩
end Go.Proofs.YtamlaeocojcgdaaDoor
/- viewref.ReadQuery, over readStep's contract. -/
namespace Go.Proofs.YtamlaeocojcgdaaDoor
set_option linter.unusedVariables false
set_option linter.unusedSimpArgs false
open Go.ChangeShapes Go.WideShapes Go.ChangeAt Go.RowKit

/-- viewref.readStep's contract. -/
def RStepC : Prop := ∀ (v : List UInt8) (r : List (List UInt8)) (A : Option Addr) (cp n : Nat), r.length = n → ∀ w : World, WRow w A (v :: r) → n ≤ 1999 → n + 1 ≤ cp → VerbsAt w → Calls Tryd.prog 23 #[.slice A (n + 1) cp] w (StepPost (v :: r) w)
theorem lines_cons (x y : List UInt8) (r : List (List UInt8)) (n : Int) : linesR (x :: y :: r) n = match stepR (pcs 32 x) with
    | none => .inl n
    | some s => linesOn [s] (linesR (y :: r) (n + 1)) := by
  rw [linesR]
  cases stepR (pcs 32 x) with
  | none => rfl
  | some s => cases linesR (y :: r) (n + 1) <;> rfl

theorem lines_bad2 {x : List UInt8} {t : List (List UInt8)} {n : Int} (h : t = [] → x ≠ []) (hs : t ≠ [] → stepR (pcs 32 x) = none) : linesR (x :: t) n = .inl n := by
  cases t with
  | nil => rw [linesR, if_neg (h rfl)]
  | cons y r => rw [lines_cons, hs (by simp)]
set_option maxHeartbeats 8000000 in
set_option maxRecDepth 100000 in
theorem rread_any (hRC : RStepC) (D : List UInt8) (w : World) (hv : VerbsAt w) (hD : D.length ≤ 9223372036854775807) :
    Calls Tryd.prog 14 #[.string (bstr D)] w (ParsePost D w) := by
  have HV := hid hv
  have HRC := hid hRC
  clear hv hRC
  have hsz := bstr_size D
  by_cases hl : 1024 < D.length
  · have t0 : (1024 < (D.length : Int)) = True := eq_true (by omega)
    have HP := hid (show parseR D = ([], 0, 2) by rw [parseR, if_pos hl])
    clear hl
    go_enter Tryd.func14, Tryd.ntmps14
    go_wp2_with fail
    go_ret3
    exact ⟨none, 0, [], (by first | (rw [HP.out]; done) | (rw [HP.out]; rfl)), (by first | (rw [HP.out]; done) | (rw [HP.out]; rfl)), by simp, ⟨Row.nil, fun x hx => by cases hx⟩, Below.refl _ _⟩
  · have t0 : (1024 < (D.length : Int)) = False := eq_false (by omega)
    have HP := hid (show parseR D = match linesR (pcs 10 D) 1 with
      | .inl k => ([], k, 3)
      | .inr q => if queryE q = 0 then (q, 0, 0) else ([], 0, queryE q) by
        rw [parseR, if_neg hl]
        cases linesR (pcs 10 D) 1 <;> rfl)
    have HDL := hid (show D.length ≤ 1024 by omega)
    have HPC := hid (rpieces_any D (by omega) 10 w)
    have hp10 : (10 : UInt8).toNat = 10 := rfl
    rw [hp10] at HPC
    clear hl hp10
    go_enter Tryd.func14, Tryd.ntmps14
    go_wp2_with fail
    refine HPC.out.mono ?_
    rintro e w1 ⟨LA, lk, rfl, hown, hb1⟩
    have HB1 := hid hb1
    obtain ⟨P, hP⟩ : ∃ q, q = pcs 10 D := ⟨_, rfl⟩
    rw [← hP] at hown ⊢
    have HPP := hid hP
    obtain ⟨m, hm⟩ : ∃ m, P.length = m + 1 := ⟨P.length - 1, by have := pcs_pos 10 D; rw [← hP] at this; omega⟩
    have hpl := pcs_len 10 D
    rw [← hP] at hpl
    have hm1 : m ≤ 1024 := by have h1 := hpl.1; have := HDL.out; omega
    have hcap : m + 1 ≤ lk := by
      rcases hown.2 with ⟨_, h⟩ | ⟨g, cap, cur, e, _, _, hnc, _⟩
      · rw [hm] at h; omega
      · injection e with e1 e2 e3
        rw [e3, ← hm]; exact hnc
    have HWR := hid (show WRow w1 LA P from ⟨fun l hl => by have := hpl.2 l hl; have := HDL.out; omega, Row.of_ownS hown⟩)
    have HLN := hid hm
    have HX1 := hid (show ∀ l ∈ P, l.length ≤ 1024 from fun l hl => by have := hpl.2 l hl; have := HDL.out; omega)
    rw [hm]
    have hml : m < P.length := by omega
    obtain ⟨lb, lo, rfl, hlb, hlc⟩ := HWR.out.get hml
    obtain ⟨BL, hBL⟩ : ∃ q, q = bstr P[m] := ⟨_, rfl⟩
    rw [← hBL] at hlc
    have wm : IntKind.i64.wrap ((m : Int) + 1 - 1) = (m : Int) := by rw [show (m : Int) + 1 - 1 = m by omega]; exact IntWalk.i64_in _ (by omega)
    have hcap1 : (m : Int) ≤ (lk : Int) := by omega
    clear hb1 hown hP HPC hpl hm
    by_cases hlast : P[m] = []
    · have tl : (BL.toList == []) = true := bsq_eqLT hBL hlast
      have HLA := hid hlast
      clear hlast hBL
      go_wp2_with fail
      go_loopw [7, 8] (fun s7 s8 wr => ∃ M : List SR, M.length ≤ m ∧ s8 = .int .i64 (M.length : Int) ∧ Hid (wr.ownsRow w1.heap.size 40 7 s7 M.length (scells M)) ∧ Hid (Sn wr s7.ownBlock M) ∧
        Hid (linesR P 1 = linesOn (sts M) (linesR (P.drop M.length) ((M.length : Int) + 1))) ∧ Hid (Below w1.heap.size w1 wr)) (fun _ s8 _ => m - (intOf s8).toNat)
      case atStart => exact ⟨[], by simp, rfl, hid (World.ownsRow_nil _ _ _ _), hid (Sn.nil _ _), hid (linesOn_nil (linesR P 1)).symm, hid (Below.refl _ _)⟩
      case round =>
        obtain ⟨M, hM, rfl, HO, HS, HL, HB⟩ := hrel
        obtain ⟨wo, rfl⟩ : ∃ q : World, q = wr := ⟨_, rfl⟩
        obtain ⟨A5, c5, rfl⟩ := own_formS HO.out
        obtain ⟨i, hi⟩ : ∃ i, i = M.length := ⟨_, rfl⟩
        have HBW := hid (Below.step' HB1.out HB.out)
        by_cases hlm : M.length < m
        · have hlt : M.length < P.length := by have := HLN.out; omega
          have ti : ((M.length : Int) < (m : Int)) = True := eq_true (by omega)
          obtain ⟨b', o', hA, hb', hc'⟩ := (HWR.out.step HB.out).get hlt
          obtain ⟨rfl, rfl, -⟩ := Addr.mk.inj (Option.some.inj hA)
          have HDR := hid (show P.drop M.length = P[M.length] :: P.drop (M.length + 1) from List.drop_eq_getElem_cons hlt)
          have hxl := HWR.out.1 _ (List.getElem_mem hlt)
          have HLX := hid (fun (e : M.length = m) => (show P[M.length] = P[m] by simp only [e]))
          have HLM := hid (List.getElem_mem hlt)
          generalize P[M.length] = x at *
          obtain ⟨BX, hBX⟩ : ∃ q, q = bstr x := ⟨_, rfl⟩
          have HPX := hid (rpieces_any x hxl 32 wo)
          have h32 : (32 : UInt8).toNat = 32 := rfl
          rw [h32, ← hBX] at HPX
          rw [← hBX] at hc'
          obtain ⟨v, r, hvr⟩ := pcs_ex 32 x
          have hpl2 := pcs_len 32 x
          rw [hvr] at HPX
          have HVR := hid hvr
          have HPL := hid (show ∀ l ∈ v :: r, l.length ≤ 2000 from fun l h => by rw [← hvr] at h; have := hpl2.2 l h; omega)
          have hnr : r.length ≤ 1999 ∨ 1999 < r.length := by omega
          have hxm : x.length ≤ 1998 ∨ 1998 < x.length := by omega
          obtain ⟨n, hn⟩ : ∃ n, n = r.length := ⟨_, rfl⟩
          have hn1 : (v :: r).length = n + 1 := by rw [hn]; rfl
          have hn2 : n ≤ x.length := by have h1 := hpl2.1; rw [hvr, hn1] at h1; omega
          have HN1 := hid hn1
          have HN := hid hn
          have HXL := hid hxl
          have HN2 := hid hn2
          clear hA hvr hpl2 hn hn1 hn2 hnr hxm hxl h32 hBX hi
          go_wp2_with fail
          refine HPX.out.mono ?_
          rintro e w2 ⟨XA, xk, rfl, hown2, hb2⟩
          rw [HN1.out] at hown2 ⊢
          have HB2 := hid hb2
          have hxk : n + 1 ≤ xk := by
            rcases hown2.2 with ⟨_, h⟩ | ⟨g, cap, cur, e, _, _, hnc, _⟩
            · omega
            · injection e with e1 e2 e3
              rw [e3]; exact hnc
          have HST := hid (HRC.out v r XA xk n HN.out.symm w2 ⟨HPL.out, Row.of_ownS hown2⟩ (by have := HN2.out; have := HX1.out x HLM.out; omega) hxk (HV.out.step (Below.step' HBW.out hb2)))
          have hlo : wo.heap.size ≤ w2.heap.size := hb2.size
          clear hb2 hown2 HPX hc'
          go_wp2_with fail
          refine HST.out.mono ?_
          rintro e w3 ⟨k, a, b, c, p, v', lA, ln, lc, rfl, hb3, hst⟩
          have HB3 := hid (Below.step' HB2.out hb3)
          have HST3 := hid hst
          clear hb3 hst HST
          obtain ⟨ok, hok⟩ : ∃ q, q = (stepR (v :: r)).isSome := ⟨_, rfl⟩
          rw [← hok]
          have HOK := hid hok
          clear hok
          have HTL := hid (show M.length < m → P.drop (M.length + 1) ≠ [] from fun h e => by
            have h1 := congrArg List.length e
            rw [List.length_drop, HLN.out] at h1
            simp at h1
            omega)
          cases ok with
          | false =>
            have hno : stepR (pcs 32 x) = none := by
              rw [HVR.out]
              cases h : stepR (v :: r) with
              | none => rfl
              | some s => have := HOK.out; rw [h] at this; cases this
            have HP2 := hid (show parseR D = ([], (M.length : Int) + 1, 3) by
              rw [HP.out, ← HPP.out, HL.out, HDR.out, lines_bad2 (fun ht => absurd ht (HTL.out (by omega))) (fun _ => hno)]
              rfl)
            clear hno
            go_wp2_with fail
            go_ret3
            exact ⟨none, 0, [], (by first | (rw [HP2.out]; done) | (rw [HP2.out]; rfl)), (by first | (rw [HP2.out]; done) | (rw [HP2.out]; rfl)), by simp, ⟨Row.nil, fun x hx => by cases hx⟩, (Below.step' HBW.out HB3.out).alloc (Below.step' HBW.out HB3.out).size _⟩
          | true =>
            obtain ⟨st, hst⟩ : ∃ st, stepR (v :: r) = some st := Option.isSome_iff_exists.1 HOK.out.symm
            obtain ⟨l, rfl, rfl, hni⟩ := HST3.out st hst
            have HNI := hid hni
            have hll := stepR_list hst (fun x hx => HPL.out x (by simp [hx]))
            have HLL := hid hll
            obtain ⟨y, t, hyt⟩ := List.exists_cons_of_ne_nil (HTL.out (by omega))
            have HL2 := hid (show linesR P 1 = linesOn (sts M ++ [⟨k, a, b, c, p, v', l⟩]) (linesR (P.drop (M.length + 1)) (((M.length + 1 : Nat) : Int) + 1)) by
              rw [HL.out, HDR.out, hyt, lines_cons, HVR.out, hst, ← linesOn_on]
              rfl)
            clear hst hni hll HL hyt
            obtain ⟨W4, hW4⟩ : ∃ q, q = w3.alloc (.cells (stC k a b c p v' (.slice lA l.length lc)) 40) := ⟨_, rfl⟩
            have HB34 := hid (show Below w3.heap.size w3 W4 by rw [hW4]; exact (Below.refl _ _).alloc (Nat.le_refl _) _)
            have HX4 := hid (show Blk W4 w3.heap.size (stC k a b c p v' (.slice lA l.length lc)) 40 by rw [hW4]; exact Blk.new _ _ _)
            have hs4 : w3.heap.size < W4.heap.size := HX4.out.lt
            have HO4 := hid (qown_step (qown_step HO.out HB3.out) HB34.out)
            have HS4 := hid ((HS.out.step HB3.out).step HB34.out)
            have HB4 := hid (Below.step' HB.out (Below.step' HB3.out HB34.out))
            have HSX := hid (SnOk.new (w := w3) (g := (Value.slice A5 M.length c5).ownBlock) (x := ⟨⟨k, a, b, c, p, v', l⟩, lA, lc⟩) HNI.out HLL.out (fun g e => by have := (HO.out.lt g e).2; omega))
            have hone : ∀ u ∈ (⟨⟨k, a, b, c, p, v', l⟩, lA, lc⟩ : SR).cells, u.oneCell' = true := by
              intro u hu
              simp only [SR.cells, List.mem_cons, List.not_mem_nil, or_false] at hu
              rcases hu with rfl | rfl | rfl | rfl | rfl | rfl | rfl <;> rfl
            go_upto_region 12 with fail
            rw [← hW4]
            clear hW4
            obtain ⟨cHX4, fHX4, sHX4, nHX4⟩ := HX4.out.all
            try simp only [cbox] at cHX4
            go_wp2_with (at_builtin; refine wpList_append_row elem_qst rfl _ _ rfl w1.heap.size _ _ _ rfl (HO4.out.alloc _) (some ⟨W4.heap.size, 0, none⟩) 1 1 (W4.heap.size + 1) (⟨⟨k, a, b, c, p, v', l⟩, lA, lc⟩ : SR).cells rfl rfl (by exact Row.new' W4 _ _ rfl rfl (Nat.lt_succ_self _)) hone ?_ ?_ ?_ ?_; rotate_right; intro v7 w7 hown7 hg7 hif7; obtain ⟨A7, c7, rfl⟩ := own_formS hown7; rotate_left; (simp only [maxLen]; omega); (omega); (have := HB4.out.size; simp; omega))
            have HSN := hid (show Sn w7 (Value.slice A7 (M.length + 1) c7).ownBlock (M ++ [⟨⟨k, a, b, c, p, v', l⟩, lA, lc⟩]) from
              (((HS4.out.snoc (HSX.out.step HB34.out)).step ((Below.refl _ _).alloc (Nat.le_refl _) _)).grown hg7 hif7))
            have HOW := hid hown7
            have HB7 := hid (Below.grown (HB4.out.alloc HB4.out.size _) hg7 (HB4.out.alloc HB4.out.size _).size (fun g e => (HO4.out.lt g e).1))
            clear hown7 hg7 hif7
            go_roundw
            case rel =>
              refine ⟨M ++ [⟨⟨k, a, b, c, p, v', l⟩, lA, lc⟩], by rw [List.length_append, List.length_singleton]; omega, by rw [List.length_append, List.length_singleton]; go_num, hid ?_, hid ?_, hid ?_, HB7⟩
              · rw [qscells_snoc, List.length_append, List.length_singleton]; exact HOW.out
              · exact HSN.out
              · rw [HL2.out]
                simp only [sts, List.map_append, List.map_cons, List.map_nil, List.length_append, List.length_singleton]
            case measure => simp [intOf]; omega
        · have ti : ((M.length : Int) < (m : Int)) = False := eq_false (by omega)
          have hme : M.length = m := by omega
          have HR := hid (show RowS wo wo.heap.size A5 M from ⟨Row.of_ownS HO.out, HS.out.rows⟩)
          have HC := hid (Rquery_any M A5 c5 wo HR.out (by omega))
          have HP2 := hid (show parseR D = if queryE (sts M) = 0 then (sts M, 0, 0) else ([], 0, queryE (sts M)) by
            have hd : P.drop m = [[]] := by
              rw [List.drop_eq_getElem_cons hml, HLA.out, List.drop_of_length_le (by have := HLN.out; omega)]
            rw [HP.out, ← HPP.out, HL.out, hme, hd]
            simp [linesR, linesOn])
          obtain ⟨E, hE⟩ : ∃ q, q = queryE (sts M) := ⟨_, rfl⟩
          rw [← hE] at HC HP2
          clear hE hme hi
          go_wp2_with fail
          refine HC.out.mono ?_
          rintro e w2 ⟨rfl, hb2⟩
          have HB2 := hid hb2
          clear hb2 HC
          by_cases he : E = 0
          · have te : (E != 0) = false := by rw [he]; rfl
            rw [if_pos he] at HP2
            clear he
            go_wp2_with fail
            go_ret3
            exact ⟨A5, c5, M, (by first | (rw [HP2.out]; done) | (rw [HP2.out]; rfl)), (by first | (rw [HP2.out]; done) | (rw [HP2.out]; rfl)), by omega, HR.out.step HB2.out, Below.step' HBW.out HB2.out⟩
          · have te : (E != 0) = true := bne_iff_ne.2 he
            rw [if_neg he] at HP2
            clear he
            go_wp2_with fail
            go_ret3
            exact ⟨none, 0, [], (by first | (rw [HP2.out]; done) | (rw [HP2.out]; rfl)), (by first | (rw [HP2.out]; done) | (rw [HP2.out]; rfl)), by simp, ⟨Row.nil, fun x hx => by cases hx⟩, Below.step' HBW.out HB2.out⟩
    · have tl : (BL.toList == []) = false := bsq_eqLF hBL hlast
      have HLA := hid hlast
      clear hlast hBL
      go_wp2_with fail
      go_loopw [7, 8] (fun s7 s8 wr => ∃ M : List SR, M.length ≤ m ∧ s8 = .int .i64 (M.length : Int) ∧ Hid (wr.ownsRow w1.heap.size 40 7 s7 M.length (scells M)) ∧ Hid (Sn wr s7.ownBlock M) ∧
        Hid (linesR P 1 = linesOn (sts M) (linesR (P.drop M.length) ((M.length : Int) + 1))) ∧ Hid (Below w1.heap.size w1 wr)) (fun _ s8 _ => m + 1 - (intOf s8).toNat)
      case atStart => exact ⟨[], by simp, rfl, hid (World.ownsRow_nil _ _ _ _), hid (Sn.nil _ _), hid (linesOn_nil (linesR P 1)).symm, hid (Below.refl _ _)⟩
      case round =>
        obtain ⟨M, hM, rfl, HO, HS, HL, HB⟩ := hrel
        obtain ⟨wo, rfl⟩ : ∃ q : World, q = wr := ⟨_, rfl⟩
        obtain ⟨A5, c5, rfl⟩ := own_formS HO.out
        obtain ⟨i, hi⟩ : ∃ i, i = M.length := ⟨_, rfl⟩
        have HBW := hid (Below.step' HB1.out HB.out)
        · have hlt : M.length < P.length := by have := HLN.out; omega
          have ti : ((M.length : Int) < (m : Int) + 1) = True := eq_true (by omega)
          obtain ⟨b', o', hA, hb', hc'⟩ := (HWR.out.step HB.out).get hlt
          obtain ⟨rfl, rfl, -⟩ := Addr.mk.inj (Option.some.inj hA)
          have HDR := hid (show P.drop M.length = P[M.length] :: P.drop (M.length + 1) from List.drop_eq_getElem_cons hlt)
          have hxl := HWR.out.1 _ (List.getElem_mem hlt)
          have HLX := hid (fun (e : M.length = m) => (show P[M.length] = P[m] by simp only [e]))
          have HLM := hid (List.getElem_mem hlt)
          generalize P[M.length] = x at *
          obtain ⟨BX, hBX⟩ : ∃ q, q = bstr x := ⟨_, rfl⟩
          have HPX := hid (rpieces_any x hxl 32 wo)
          have h32 : (32 : UInt8).toNat = 32 := rfl
          rw [h32, ← hBX] at HPX
          rw [← hBX] at hc'
          obtain ⟨v, r, hvr⟩ := pcs_ex 32 x
          have hpl2 := pcs_len 32 x
          rw [hvr] at HPX
          have HVR := hid hvr
          have HPL := hid (show ∀ l ∈ v :: r, l.length ≤ 2000 from fun l h => by rw [← hvr] at h; have := hpl2.2 l h; omega)
          have hnr : r.length ≤ 1999 ∨ 1999 < r.length := by omega
          have hxm : x.length ≤ 1998 ∨ 1998 < x.length := by omega
          obtain ⟨n, hn⟩ : ∃ n, n = r.length := ⟨_, rfl⟩
          have hn1 : (v :: r).length = n + 1 := by rw [hn]; rfl
          have hn2 : n ≤ x.length := by have h1 := hpl2.1; rw [hvr, hn1] at h1; omega
          have HN1 := hid hn1
          have HN := hid hn
          have HXL := hid hxl
          have HN2 := hid hn2
          clear hA hvr hpl2 hn hn1 hn2 hnr hxm hxl h32 hBX hi
          go_wp2_with fail
          refine HPX.out.mono ?_
          rintro e w2 ⟨XA, xk, rfl, hown2, hb2⟩
          rw [HN1.out] at hown2 ⊢
          have HB2 := hid hb2
          have hxk : n + 1 ≤ xk := by
            rcases hown2.2 with ⟨_, h⟩ | ⟨g, cap, cur, e, _, _, hnc, _⟩
            · omega
            · injection e with e1 e2 e3
              rw [e3]; exact hnc
          have HST := hid (HRC.out v r XA xk n HN.out.symm w2 ⟨HPL.out, Row.of_ownS hown2⟩ (by have := HN2.out; have := HX1.out x HLM.out; omega) hxk (HV.out.step (Below.step' HBW.out hb2)))
          have hlo : wo.heap.size ≤ w2.heap.size := hb2.size
          clear hb2 hown2 HPX hc'
          go_wp2_with fail
          refine HST.out.mono ?_
          rintro e w3 ⟨k, a, b, c, p, v', lA, ln, lc, rfl, hb3, hst⟩
          have HB3 := hid (Below.step' HB2.out hb3)
          have HST3 := hid hst
          clear hb3 hst HST
          obtain ⟨ok, hok⟩ : ∃ q, q = (stepR (v :: r)).isSome := ⟨_, rfl⟩
          rw [← hok]
          have HOK := hid hok
          clear hok
          have HTL := hid (show M.length < m → P.drop (M.length + 1) ≠ [] from fun h e => by
            have h1 := congrArg List.length e
            rw [List.length_drop, HLN.out] at h1
            simp at h1
            omega)
          cases ok with
          | false =>
            have hno : stepR (pcs 32 x) = none := by
              rw [HVR.out]
              cases h : stepR (v :: r) with
              | none => rfl
              | some s => have := HOK.out; rw [h] at this; cases this
            have HP2 := hid (show parseR D = ([], (M.length : Int) + 1, 3) by
              rw [HP.out, ← HPP.out, HL.out, HDR.out, lines_bad2 (fun ht => (Nat.lt_or_ge M.length m).elim (fun q => absurd ht (HTL.out q)) (fun q => by rw [HLX.out (by omega)]; exact HLA.out)) (fun _ => hno)]
              rfl)
            clear hno
            go_wp2_with fail
            go_ret3
            exact ⟨none, 0, [], (by first | (rw [HP2.out]; done) | (rw [HP2.out]; rfl)), (by first | (rw [HP2.out]; done) | (rw [HP2.out]; rfl)), by simp, ⟨Row.nil, fun x hx => by cases hx⟩, (Below.step' HBW.out HB3.out).alloc (Below.step' HBW.out HB3.out).size _⟩
          | true =>
            by_cases hlm : M.length < m
            · have te : ((M.length : Int) == (m : Int)) = false := beq_eq_false_iff_ne.2 (by omega)
              obtain ⟨st, hst⟩ : ∃ st, stepR (v :: r) = some st := Option.isSome_iff_exists.1 HOK.out.symm
              obtain ⟨l, rfl, rfl, hni⟩ := HST3.out st hst
              have HNI := hid hni
              have hll := stepR_list hst (fun x hx => HPL.out x (by simp [hx]))
              have HLL := hid hll
              obtain ⟨y, t, hyt⟩ := List.exists_cons_of_ne_nil (HTL.out (by omega))
              have HL2 := hid (show linesR P 1 = linesOn (sts M ++ [⟨k, a, b, c, p, v', l⟩]) (linesR (P.drop (M.length + 1)) (((M.length + 1 : Nat) : Int) + 1)) by
                rw [HL.out, HDR.out, hyt, lines_cons, HVR.out, hst, ← linesOn_on]
                rfl)
              clear hst hni hll HL hyt
              obtain ⟨W4, hW4⟩ : ∃ q, q = w3.alloc (.cells (stC k a b c p v' (.slice lA l.length lc)) 40) := ⟨_, rfl⟩
              have HB34 := hid (show Below w3.heap.size w3 W4 by rw [hW4]; exact (Below.refl _ _).alloc (Nat.le_refl _) _)
              have HX4 := hid (show Blk W4 w3.heap.size (stC k a b c p v' (.slice lA l.length lc)) 40 by rw [hW4]; exact Blk.new _ _ _)
              have hs4 : w3.heap.size < W4.heap.size := HX4.out.lt
              have HO4 := hid (qown_step (qown_step HO.out HB3.out) HB34.out)
              have HS4 := hid ((HS.out.step HB3.out).step HB34.out)
              have HB4 := hid (Below.step' HB.out (Below.step' HB3.out HB34.out))
              have HSX := hid (SnOk.new (w := w3) (g := (Value.slice A5 M.length c5).ownBlock) (x := ⟨⟨k, a, b, c, p, v', l⟩, lA, lc⟩) HNI.out HLL.out (fun g e => by have := (HO.out.lt g e).2; omega))
              have hone : ∀ u ∈ (⟨⟨k, a, b, c, p, v', l⟩, lA, lc⟩ : SR).cells, u.oneCell' = true := by
                intro u hu
                simp only [SR.cells, List.mem_cons, List.not_mem_nil, or_false] at hu
                rcases hu with rfl | rfl | rfl | rfl | rfl | rfl | rfl <;> rfl
              go_upto_region 12 with fail
              rw [← hW4]
              clear hW4
              obtain ⟨cHX4, fHX4, sHX4, nHX4⟩ := HX4.out.all
              try simp only [cbox] at cHX4
              go_wp2_with (at_builtin; refine wpList_append_row elem_qst rfl _ _ rfl w1.heap.size _ _ _ rfl (HO4.out.alloc _) (some ⟨W4.heap.size, 0, none⟩) 1 1 (W4.heap.size + 1) (⟨⟨k, a, b, c, p, v', l⟩, lA, lc⟩ : SR).cells rfl rfl (by exact Row.new' W4 _ _ rfl rfl (Nat.lt_succ_self _)) hone ?_ ?_ ?_ ?_; rotate_right; intro v7 w7 hown7 hg7 hif7; obtain ⟨A7, c7, rfl⟩ := own_formS hown7; rotate_left; (simp only [maxLen]; omega); (omega); (have := HB4.out.size; simp; omega))
              have HSN := hid (show Sn w7 (Value.slice A7 (M.length + 1) c7).ownBlock (M ++ [⟨⟨k, a, b, c, p, v', l⟩, lA, lc⟩]) from
                (((HS4.out.snoc (HSX.out.step HB34.out)).step ((Below.refl _ _).alloc (Nat.le_refl _) _)).grown hg7 hif7))
              have HOW := hid hown7
              have HB7 := hid (Below.grown (HB4.out.alloc HB4.out.size _) hg7 (HB4.out.alloc HB4.out.size _).size (fun g e => (HO4.out.lt g e).1))
              clear hown7 hg7 hif7
              go_roundw
              case rel =>
                refine ⟨M ++ [⟨⟨k, a, b, c, p, v', l⟩, lA, lc⟩], by rw [List.length_append, List.length_singleton]; omega, by rw [List.length_append, List.length_singleton]; go_num, hid ?_, hid ?_, hid ?_, HB7⟩
                · rw [qscells_snoc, List.length_append, List.length_singleton]; exact HOW.out
                · exact HSN.out
                · rw [HL2.out]
                  simp only [sts, List.map_append, List.map_cons, List.map_nil, List.length_append, List.length_singleton]
              case measure => simp [intOf]; omega
            · have hme : M.length = m := by omega
              have te : ((M.length : Int) == (m : Int)) = true := by rw [hme]; simp
              have HP2 := hid (show parseR D = ([], (M.length : Int) + 1, 3) by
                rw [HP.out, ← HPP.out, HL.out, HDR.out, List.drop_of_length_le (by have := HLN.out; omega), lines_bad2 (fun _ => by rw [HLX.out hme]; exact HLA.out) (fun h => absurd rfl h)]
                rfl)
              clear hme
              go_wp2_with fail
              go_ret3
              exact ⟨none, 0, [], (by first | (rw [HP2.out]; done) | (rw [HP2.out]; rfl)), (by first | (rw [HP2.out]; done) | (rw [HP2.out]; rfl)), by simp, ⟨Row.nil, fun x hx => by cases hx⟩, (Below.step' HBW.out HB3.out).alloc (Below.step' HBW.out HB3.out).size _⟩
end Go.Proofs.YtamlaeocojcgdaaDoor
/- slices.Equal at int, EqualFunc at Item, viewref.SameSet. -/
namespace Go.Proofs.YtamlaeocojcgdaaDoor
set_option linter.unusedVariables false
set_option linter.unusedSimpArgs false
open Go.ChangeShapes Go.WideShapes Go.ChangeAt Go.RowKit

set_option maxHeartbeats 400000 in
set_option maxRecDepth 100000 in
theorem equalN_any (l m : List Int) (A B : Option Addr) (c e : Nat) (w : World) (hr : Row w w.heap.size A (icells' l)) (hs : Row w w.heap.size B (icells' m)) (hl : l.length ≤ 9223372036854775807) (hm : m.length ≤ 9223372036854775807) :
    Calls Tryd.prog 26 #[.slice A l.length c, .slice B m.length e] w fun e w' => e = .returned (.bool (decide (l = m))) ∧ Below w.heap.size w w' := by
  have HR := hid hr
  have HS := hid hs
  clear hr hs
  by_cases hlen : l.length = m.length
  · have hne : ((l.length : Int) != (m.length : Int)) = false := by simp [hlen]
    have HL := hid hlen
    clear hlen
    go_enter Tryd.func26, Tryd.ntmps26
    go_wp2
    go_loopw [13] (fun i wr => (∃ k : Nat, k ≤ l.length ∧ i = .int .i64 k ∧ ∀ j (h : j < l.length) (h' : j < m.length), j < k → l[j] = m[j]) ∧ Below w.heap.size w wr) (fun i _ => l.length - (intOf i).toNat)
    case atStart => exact ⟨⟨0, by omega, rfl, fun j _ _ h => absurd h (by omega)⟩, Below.refl _ _⟩
    case round =>
      obtain ⟨⟨k, hk, rfl, hno⟩, hbw⟩ := hrel
      by_cases hlt : k < l.length
      · have hlt' : k < m.length := by have := HL.out; omega
        obtain ⟨b, off, rfl, hb, h0⟩ := (HR.out.below hbw (Nat.le_refl _)).int' hlt
        obtain ⟨b', off', rfl, hb', h0'⟩ := (HS.out.below hbw (Nat.le_refl _)).int' hlt'
        have HN := hid hno
        have HB := hid hbw
        clear hno hbw
        generalize hd : l[k] = d at *
        generalize hd' : m[k] = d' at *
        have HD := hid hd
        have HD' := hid hd'
        clear hd hd'
        by_cases hq : d = d'
        · have q : (d != d') = false := by simp [hq]
          have HQ := hid hq
          clear hq
          go_wp2
          refine wp_region_quiet_lit (by kernel_rfl) (by kernel_rfl) ?_
          repeat (any_goals ((with_reducible refine wpQuiet_step (fun K hK => ?_)); go_simp; first | (with_reducible refine hK _ ?_; clear hK K) | ((with_reducible apply Exists.intro); (with_reducible refine ⟨fun _ => ?_, hK _ ?_⟩); (fail); clear hK K) | ((with_reducible refine (if_neg ?_).mpr (hK _ ?_)); (decide); clear hK K) | (split <;> (with_reducible refine hK _ ?_; clear hK K))))
          all_goals ((with_reducible refine wpQuiet_nil ?_); intro _ hw'; obtain ⟨nq, hw''⟩ := hw'; subst hw'')
          go_wp2
          go_roundw
          case rel =>
            refine ⟨⟨k + 1, by omega, by go_num, fun j h h' hj => ?_⟩, below_drewN HB.out _⟩
            by_cases e : j = k
            · subst e; rw [HD.out, HD'.out]; exact HQ.out
            · exact HN.out j h h' (by omega)
          case measure => simp [intOf]; omega
        · have q : (d != d') = true := by simp [hq]
          have HQ := hid hq
          clear hq
          go_wp2
          refine wp_region_quiet_lit (by kernel_rfl) (by kernel_rfl) ?_
          repeat (any_goals ((with_reducible refine wpQuiet_step (fun K hK => ?_)); go_simp; first | (with_reducible refine hK _ ?_; clear hK K) | ((with_reducible apply Exists.intro); (with_reducible refine ⟨fun _ => ?_, hK _ ?_⟩); (fail); clear hK K) | ((with_reducible refine (if_neg ?_).mpr (hK _ ?_)); (decide); clear hK K) | (split <;> (with_reducible refine hK _ ?_; clear hK K))))
          all_goals ((with_reducible refine wpQuiet_nil ?_); intro _ hw'; obtain ⟨nq, hw''⟩ := hw'; subst hw'')
          go_wp2
          go_ret
          refine ⟨ret_bool ?_, below_drewN HB.out _⟩
          symm
          rw [decide_eq_false_iff_not]
          rintro rfl
          exact HQ.out (HD.out.symm.trans HD'.out)
      · go_wp2
        go_ret
        refine ⟨ret_bool ?_, hbw⟩
        have : l = m := List.ext_getElem HL.out fun j h h' => hno j h h' (by omega)
        simp [this]
  · have hne : ((l.length : Int) != (m.length : Int)) = true := by simp; omega
    go_enter Tryd.func26, Tryd.ntmps26
    go_wp2
    go_ret
    exact ⟨ret_bool (by symm; simp; rintro rfl; exact hlen rfl), Below.refl _ _⟩


end Go.Proofs.YtamlaeocojcgdaaDoor
/- viewref.SameQuery. -/
namespace Go.Proofs.YtamlaeocojcgdaaDoor
set_option linter.unusedVariables false
set_option linter.unusedSimpArgs false
open Go.ChangeShapes Go.WideShapes Go.ChangeAt Go.RowKit

instance : DecidableEq St := fun s t => decidable_of_iff (s.kind = t.kind ∧ s.a = t.a ∧ s.b = t.b ∧ s.col = t.col ∧ s.op = t.op ∧ s.val = t.val ∧ s.list = t.list) (by cases s; cases t; simp)
theorem sts_len (L : List SR) : (sts L).length = L.length := List.length_map ..
set_option maxHeartbeats 1000000 in
set_option maxRecDepth 100000 in
theorem sameStep_any (x y : SR) (w : World) (hx : Row w w.heap.size x.A (icells' x.st.list)) (hxl : x.st.list.length ≤ 9223372036854775807) (hy : Row w w.heap.size y.A (icells' y.st.list)) (hyl : y.st.list.length ≤ 9223372036854775807) :
    Calls Tryd.prog 25 #[.agg x.cells.toArray, .agg y.cells.toArray] w fun e w' => e = .returned (.bool (decide (x.st = y.st))) ∧ Below w.heap.size w w' := by
  obtain ⟨⟨x1, x2, x3, x4, x5, x6, xr⟩, xA, xk⟩ := x
  obtain ⟨⟨y1, y2, y3, y4, y5, y6, yr⟩, yA, yk⟩ := y
  simp only at hx hxl hy hyl
  have HC := hid (fun w1 (hb : Below w.heap.size w w1) => equalN_any xr yr xA yA xk yk w1 (hx.step hb) (hy.step hb) hxl hyl)
  clear hx hy
  obtain ⟨R, hR⟩ : ∃ R, R = decide ((⟨x1, x2, x3, x4, x5, x6, xr⟩ : St) = ⟨y1, y2, y3, y4, y5, y6, yr⟩) := ⟨_, rfl⟩
  simp only [← hR]
  have HX : Hid (R = (decide (x1 = y1) && (decide (x2 = y2) && (decide (x3 = y3) && (decide (x4 = y4) && (decide (x5 = y5) && (decide (x6 = y6) && decide (xr = yr)))))))) := hid (by
    rw [hR, Bool.eq_iff_iff]
    simp [St.mk.injEq])
  clear hR
  obtain ⟨rb, hrb⟩ : ∃ b, b = decide (xr = yr) := ⟨_, rfl⟩
  rw [← hrb] at HC HX
  clear hrb
  simp only [SR.cells]
  by_cases h1 : x1 = y1
  rotate_left
  · have t1 : (x1 == y1) = false := by simp [h1]
    have HD : Hid (R = false) := hid (by rw [HX.out]; simp [h1])
    clear h1
    go_enter Tryd.func25, Tryd.ntmps25
    go_wp2
    go_ret
    exact ⟨ret_bool HD.out.symm, by (repeat' (first | (with_reducible exact Below.refl _ _) | (with_reducible assumption) | (with_reducible refine below_drewN ?_ _) | (with_reducible refine Below.drew ?_) | (with_reducible refine Below.alloc ?_ ?_ _) | (with_reducible refine Below.setCell ?_ ?_ _) | (refine Below.trans ?_ (Below.mono (by assumption) ?_)) | go_size))⟩
  have t1 : (x1 == y1) = true := by simp [h1]
  rw [decide_eq_true h1, Bool.true_and] at HX
  clear h1
  by_cases h2 : x2 = y2
  rotate_left
  · have t2 : (x2 == y2) = false := by simp [h2]
    have HD : Hid (R = false) := hid (by rw [HX.out]; simp [h2])
    clear h2
    go_enter Tryd.func25, Tryd.ntmps25
    go_wp2
    go_ret
    exact ⟨ret_bool HD.out.symm, by (repeat' (first | (with_reducible exact Below.refl _ _) | (with_reducible assumption) | (with_reducible refine below_drewN ?_ _) | (with_reducible refine Below.drew ?_) | (with_reducible refine Below.alloc ?_ ?_ _) | (with_reducible refine Below.setCell ?_ ?_ _) | (refine Below.trans ?_ (Below.mono (by assumption) ?_)) | go_size))⟩
  have t2 : (x2 == y2) = true := by simp [h2]
  rw [decide_eq_true h2, Bool.true_and] at HX
  clear h2
  by_cases h3 : x3 = y3
  rotate_left
  · have t3 : (x3 == y3) = false := by simp [h3]
    have HD : Hid (R = false) := hid (by rw [HX.out]; simp [h3])
    clear h3
    go_enter Tryd.func25, Tryd.ntmps25
    go_wp2
    go_ret
    exact ⟨ret_bool HD.out.symm, by (repeat' (first | (with_reducible exact Below.refl _ _) | (with_reducible assumption) | (with_reducible refine below_drewN ?_ _) | (with_reducible refine Below.drew ?_) | (with_reducible refine Below.alloc ?_ ?_ _) | (with_reducible refine Below.setCell ?_ ?_ _) | (refine Below.trans ?_ (Below.mono (by assumption) ?_)) | go_size))⟩
  have t3 : (x3 == y3) = true := by simp [h3]
  rw [decide_eq_true h3, Bool.true_and] at HX
  clear h3
  by_cases h4 : x4 = y4
  rotate_left
  · have t4 : (x4 == y4) = false := by simp [h4]
    have HD : Hid (R = false) := hid (by rw [HX.out]; simp [h4])
    clear h4
    go_enter Tryd.func25, Tryd.ntmps25
    go_wp2
    go_ret
    exact ⟨ret_bool HD.out.symm, by (repeat' (first | (with_reducible exact Below.refl _ _) | (with_reducible assumption) | (with_reducible refine below_drewN ?_ _) | (with_reducible refine Below.drew ?_) | (with_reducible refine Below.alloc ?_ ?_ _) | (with_reducible refine Below.setCell ?_ ?_ _) | (refine Below.trans ?_ (Below.mono (by assumption) ?_)) | go_size))⟩
  have t4 : (x4 == y4) = true := by simp [h4]
  rw [decide_eq_true h4, Bool.true_and] at HX
  clear h4
  by_cases h5 : x5 = y5
  rotate_left
  · have t5 : (x5 == y5) = false := by simp [h5]
    have HD : Hid (R = false) := hid (by rw [HX.out]; simp [h5])
    clear h5
    go_enter Tryd.func25, Tryd.ntmps25
    go_wp2
    go_ret
    exact ⟨ret_bool HD.out.symm, by (repeat' (first | (with_reducible exact Below.refl _ _) | (with_reducible assumption) | (with_reducible refine below_drewN ?_ _) | (with_reducible refine Below.drew ?_) | (with_reducible refine Below.alloc ?_ ?_ _) | (with_reducible refine Below.setCell ?_ ?_ _) | (refine Below.trans ?_ (Below.mono (by assumption) ?_)) | go_size))⟩
  have t5 : (x5 == y5) = true := by simp [h5]
  rw [decide_eq_true h5, Bool.true_and] at HX
  clear h5
  by_cases h6 : x6 = y6
  rotate_left
  · have t6 : (x6 == y6) = false := by simp [h6]
    have HD : Hid (R = false) := hid (by rw [HX.out]; simp [h6])
    clear h6
    go_enter Tryd.func25, Tryd.ntmps25
    go_wp2
    go_ret
    exact ⟨ret_bool HD.out.symm, by (repeat' (first | (with_reducible exact Below.refl _ _) | (with_reducible assumption) | (with_reducible refine below_drewN ?_ _) | (with_reducible refine Below.drew ?_) | (with_reducible refine Below.alloc ?_ ?_ _) | (with_reducible refine Below.setCell ?_ ?_ _) | (refine Below.trans ?_ (Below.mono (by assumption) ?_)) | go_size))⟩
  have t6 : (x6 == y6) = true := by simp [h6]
  rw [decide_eq_true h6, Bool.true_and] at HX
  clear h6
  go_enter Tryd.func25, Tryd.ntmps25
  go_wp2_with fail
  -- STOP-a
  refine (HC.out _ (by (repeat' (first | (with_reducible exact Below.refl _ _) | (with_reducible assumption) | (with_reducible refine below_drewN ?_ _) | (with_reducible refine Below.drew ?_) | (with_reducible refine Below.alloc ?_ ?_ _) | (with_reducible refine Below.setCell ?_ ?_ _) | (refine Below.trans ?_ (Below.mono (by assumption) ?_)) | go_size)))).mono ?_
  rintro e w1 ⟨rfl, hb1⟩
  have hB1 : Below w.heap.size w w1 := (by refine Below.step' ?_ hb1; (repeat' (first | (with_reducible exact Below.refl _ _) | (with_reducible assumption) | (with_reducible refine below_drewN ?_ _) | (with_reducible refine Below.drew ?_) | (with_reducible refine Below.alloc ?_ ?_ _) | (with_reducible refine Below.setCell ?_ ?_ _) | (refine Below.trans ?_ (Below.mono (by assumption) ?_)) | go_size)))
  clear hb1
  go_wp2
  go_ret
  exact ⟨ret_bool HX.out.symm, hB1⟩
theorem enters_sameStep : ∀ args w, (callFunc 25 args).run Tryd.prog w = .ok (.enter 25 args) w := enters_of Tryd.func25 (by kernel_rfl) rfl

set_option maxHeartbeats 1000000 in
set_option maxRecDepth 100000 in
theorem equalSteps_any (M1 M2 : List SR) (A1 A2 : Option Addr) (c1 c2 : Nat) (w : World) (hr1 : RowS w w.heap.size A1 M1) (hl1 : M1.length ≤ 9223372036854775807) (hr2 : RowS w w.heap.size A2 M2) (hl2 : M2.length ≤ 9223372036854775807) :
    Calls Tryd.prog 24 #[.slice A1 M1.length c1, .slice A2 M2.length c2, .func (.func 25) #[] #[]] w fun e w' => e = .returned (.bool (decide (sts M1 = sts M2))) ∧ Below w.heap.size w w' := by
  have HR1 := hid hr1
  have HR2 := hid hr2
  have eg := enters_sameStep
  clear hr1 hr2
  obtain ⟨R, hR⟩ : ∃ R, R = decide (sts M1 = sts M2) := ⟨_, rfl⟩
  rw [← hR]
  have HRR := hid hR
  clear hR
  by_cases hlen : M1.length = M2.length
  · have hne : ((M1.length : Int) != (M2.length : Int)) = false := by simp [hlen]
    have HL := hid hlen
    clear hlen
    go_enter Tryd.func24, Tryd.ntmps24
    go_wp2_with fail
    go_loopw [17] (fun s17 wr => ∃ k : Nat, k ≤ M1.length ∧ s17 = .int .i64 k ∧ Hid (∀ j (h : j < M1.length) (h' : j < M2.length), j < k → M1[j].st = M2[j].st) ∧ Hid (Below w.heap.size w wr)) (fun s17 _ => M1.length - (intOf s17).toNat)
    case atStart => exact ⟨0, by omega, rfl, hid (fun j _ _ h => by omega), hid (Below.refl _ _)⟩
    case round =>
      obtain ⟨k, hk, rfl, HNO, HB⟩ := hrel
      by_cases hlt : k < M1.length
      · have hlt' : k < M2.length := by have := HL.out; omega
        have HS1 := hid (HR1.out.step HB.out)
        have HS2 := hid (HR2.out.step HB.out)
        obtain ⟨b, off, rfl, hb, h0, h1, h2, h3, h4, h5, h6⟩ := HS1.out.1.sr hlt
        obtain ⟨b', off', rfl, hb', h0', h1', h2', h3', h4', h5', h6'⟩ := HS2.out.1.sr hlt'
        have q1 := HS1.out.2 _ (List.getElem_mem hlt)
        have q2 := HS2.out.2 _ (List.getElem_mem hlt')
        have HXY : Hid (∀ j (h : j < M1.length) (h' : j < M2.length), j = k → (M1[j].st = M2[j].st) = (M1[k].st = M2[k].st)) := hid (fun j h h' e => by subst e; rfl)
        generalize M1[k] = x at *
        generalize M2[k] = y at *
        have HCL := hid (fun w1 (hb : Below wr.heap.size wr w1) => sameStep_any x y w1 (q1.1.step hb) q1.2 (q2.1.step hb) q2.2)
        clear q1 q2
        obtain ⟨bq, hbq⟩ : ∃ q, q = decide (x.st = y.st) := ⟨_, rfl⟩
        rw [← hbq] at HCL
        have HBQ := hid hbq
        clear hbq
        obtain ⟨⟨x1, x2, x3, x4, x5, x6, xr⟩, xA, xk⟩ := x
        obtain ⟨⟨y1, y2, y3, y4, y5, y6, yr⟩, yA, yk⟩ := y
        simp only [SR.cells] at h0 h1 h2 h3 h4 h5 h6 h0' h1' h2' h3' h4' h5' h6' HCL
        have hnb : (b' = wr.heap.size) = False := by simp; omega
        cases bq
        · have HD : Hid (R = false) := hid (by
            rw [HRR.out, decide_eq_false_iff_not]
            intro e
            have e3 : (sts M1)[k]? = (sts M2)[k]? := by rw [e]
            rw [List.getElem?_eq_getElem (by rw [sts_len]; exact hlt), List.getElem?_eq_getElem (by rw [sts_len]; exact hlt')] at e3
            simp only [sts, List.getElem_map, Option.some.injEq] at e3
            rw [HXY.out k hlt hlt' rfl] at e3
            have := HBQ.out
            rw [decide_eq_true e3] at this
            cases this)
          go_wp2_with fail
          refine (HCL.out _ (by (repeat' (first | (with_reducible exact Below.refl _ _) | (with_reducible assumption) | (with_reducible refine below_drewN ?_ _) | (with_reducible refine Below.drew ?_) | (with_reducible refine Below.alloc ?_ ?_ _) | (with_reducible refine Below.setCell ?_ ?_ _) | (refine Below.trans ?_ (Below.mono (by assumption) ?_)) | go_size)))).mono ?_
          rintro e w1 ⟨rfl, hb1⟩
          have hB1 : Below wr.heap.size wr w1 := (by refine Below.step' ?_ hb1; (repeat' (first | (with_reducible exact Below.refl _ _) | (with_reducible assumption) | (with_reducible refine below_drewN ?_ _) | (with_reducible refine Below.drew ?_) | (with_reducible refine Below.alloc ?_ ?_ _) | (with_reducible refine Below.setCell ?_ ?_ _) | (refine Below.trans ?_ (Below.mono (by assumption) ?_)) | go_size)))
          clear hb1
          go_wp2
          go_ret
          exact ⟨ret_bool HD.out.symm, Below.step' HB.out hB1⟩
        · go_wp2_with fail
          refine (HCL.out _ (by (repeat' (first | (with_reducible exact Below.refl _ _) | (with_reducible assumption) | (with_reducible refine below_drewN ?_ _) | (with_reducible refine Below.drew ?_) | (with_reducible refine Below.alloc ?_ ?_ _) | (with_reducible refine Below.setCell ?_ ?_ _) | (refine Below.trans ?_ (Below.mono (by assumption) ?_)) | go_size)))).mono ?_
          rintro e w1 ⟨rfl, hb1⟩
          have hB1 : Below wr.heap.size wr w1 := (by refine Below.step' ?_ hb1; (repeat' (first | (with_reducible exact Below.refl _ _) | (with_reducible assumption) | (with_reducible refine below_drewN ?_ _) | (with_reducible refine Below.drew ?_) | (with_reducible refine Below.alloc ?_ ?_ _) | (with_reducible refine Below.setCell ?_ ?_ _) | (refine Below.trans ?_ (Below.mono (by assumption) ?_)) | go_size)))
          have HB1 := hid hB1
          clear hb1 hB1
          go_wp2
          go_roundw
          case rel =>
            refine ⟨k + 1, by omega, by go_num, hid (fun j h h' hj => ?_), hid (Below.step' HB.out HB1.out)⟩
            by_cases e : j = k
            · rw [HXY.out j h h' e]; exact of_decide_eq_true HBQ.out.symm
            · exact HNO.out j h h' (by omega)
          case measure => simp [intOf]; omega
      · have HD : Hid (R = true) := hid (by
          rw [HRR.out, decide_eq_true_eq]
          refine List.ext_getElem (by rw [sts_len, sts_len]; exact HL.out) fun j h h' => ?_
          simp only [sts, List.getElem_map]
          rw [sts_len] at h h'
          exact HNO.out j h h' (by omega))
        go_wp2
        go_ret
        exact ⟨ret_bool HD.out.symm, HB.out⟩
  · have hne : ((M1.length : Int) != (M2.length : Int)) = true := by simp; omega
    have HD : Hid (R = false) := hid (by
      rw [HRR.out, decide_eq_false_iff_not]
      intro e
      exact hlen (by rw [← sts_len M1, ← sts_len M2, e]))
    go_enter Tryd.func24, Tryd.ntmps24
    go_wp2
    go_ret
    exact ⟨ret_bool HD.out.symm, Below.refl _ _⟩

set_option maxRecDepth 100000 in
theorem sameQuery_any (M1 M2 : List SR) (A1 A2 : Option Addr) (c1 c2 : Nat) (w : World) (hr1 : RowS w w.heap.size A1 M1) (hl1 : M1.length ≤ 9223372036854775807) (hr2 : RowS w w.heap.size A2 M2) (hl2 : M2.length ≤ 9223372036854775807) :
    Calls Tryd.prog 15 #[.slice A1 M1.length c1, .slice A2 M2.length c2] w fun e w' => e = .returned (.bool (decide (sts M1 = sts M2))) ∧ Below w.heap.size w w' := by
  have HC := hid (equalSteps_any M1 M2 A1 A2 c1 c2 w hr1 hl1 hr2 hl2)
  clear hr1 hr2
  obtain ⟨R, hR⟩ : ∃ R, R = decide (sts M1 = sts M2) := ⟨_, rfl⟩
  rw [← hR] at HC ⊢
  clear hR
  go_enter Tryd.func15, Tryd.ntmps15
  go_wp2_with fail
  refine HC.out.mono ?_
  rintro e w1 ⟨rfl, hb1⟩
  go_wp2
  go_ret
  exact ⟨rfl, hb1⟩

end Go.Proofs.YtamlaeocojcgdaaDoor
/- viewlaw.QueryReads. -/
namespace Go.Proofs.YtamlaeocojcgdaaDoor
set_option linter.unusedVariables false
set_option linter.unusedSimpArgs false
open Go.ChangeShapes Go.WideShapes Go.ChangeAt Go.RowKit

theorem wholeC : WholeC := fun D hD w => rwhole_any D hD w
theorem rstepC : RStepC := fun v r A cp n hn w hw hl hcp hv => by
  rcases kindR_out v with h | h | h | h | h | h | h | h | h | h
  · exact rstep_k1 wholeC v r A cp n hn w hw hl hcp hv h.1
  · exact rstep_k2 wholeC v r A cp n hn w hw hl hcp hv h.1
  · exact rstep_k3 wholeC v r A cp n hn w hw hl hcp hv h.1
  · exact rstep_k4 wholeC v r A cp n hn w hw hl hcp hv h.1
  · exact rstep_k5 wholeC v r A cp n hn w hw hl hcp hv h.1
  · exact rstep_k6 wholeC v r A cp n hn w hw hl hcp hv h.1
  · exact rstep_k7 wholeC v r A cp n hn w hw hl hcp hv h.1
  · exact rstep_k8 wholeC v r A cp n hn w hw hl hcp hv h.1
  · exact rstep_k9 wholeC v r A cp n hn w hw hl hcp hv h.1
  · exact rstep_k0 wholeC v r A cp n hn w hw hl hcp hv h.1
set_option maxHeartbeats 4000000 in
set_option maxRecDepth 100000 in
theorem queryReads_any (D : List UInt8) (w : World) (hm : MaxAt w) (hv : VerbsAt w) (hD : D.length ≤ 9223372036854775807) :
    Calls Tryd.prog 4 #[.string (bstr D)] w fun e w' => e = .returned (.bool true) ∧ Below w.heap.size w w' := by
  have HA := hid (qparse_any D w hm hD)
  have HB := hid (fun (w1 : World) (hb : Below w.heap.size w w1) => rread_any rstepC D w1 (hv.step hb) hD)
  clear hm hv
  go_enter Tryd.func4, Tryd.ntmps4
  go_wp2_with fail
  refine HA.out.mono ?_
  rintro e w1 ⟨A, c, M, rfl, hM, hMl, hr, hb1⟩
  have HB1 := hid hb1
  have HR1 := hid hr
  have HM := hid hM
  clear hb1 hr hM HA
  go_wp2_with fail
  refine (HB.out _ HB1.out).mono ?_
  rintro e w2 ⟨A2, c2, M2, rfl, hM2, hMl2, hr2, hb2⟩
  have HB2 := hid (Below.step' HB1.out hb2)
  have HC := hid (sameQuery_any M M2 A A2 c c2 w2 (HR1.out.step hb2) (by omega) hr2 (by omega))
  rw [HM.out, hM2, decide_eq_true rfl] at HC
  obtain ⟨at1, hat⟩ : ∃ q, q = (parseR D).2.1 := ⟨_, rfl⟩
  obtain ⟨er1, her⟩ : ∃ q, q = (parseR D).2.2 := ⟨_, rfl⟩
  rw [← hat, ← her]
  clear hb2 hr2 HR1 hM2 hat her
  -- STOP-a
  go_wp2_with fail
  -- STOP-b
  refine HC.out.mono ?_
  rintro e w3 ⟨rfl, hb3⟩
  have HB3 := hid (Below.step' HB2.out hb3)
  clear hb3 HC
  go_wp2_with fail
  -- STOP-c
  go_ret
  exact ⟨by simp, HB3.out⟩
end Go.Proofs.YtamlaeocojcgdaaDoor
