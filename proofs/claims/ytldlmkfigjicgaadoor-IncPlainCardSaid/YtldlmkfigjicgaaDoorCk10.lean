/- IvA, IvM, JnA -/
import Derived.Test.YtldlmkfigjicgaaDoorCk07
import Derived.Test.YtldlmkfigjicgaaDoorCk09
import Derived.Test.YtldlmkfigjicgaaDoorCk02
import Derived.Maps.Ext
/- inc.distinct: what is there more once. -/
namespace Go.Proofs.YtldlmkfigjicgaaDoor
set_option linter.unusedVariables false
set_option linter.unusedSimpArgs false
open Go.ChangeShapes Go.WideShapes Go.ChangeAt Go.RowKit

set_option maxRecDepth 100000 in
theorem dis11_any (x : IR) (r : List Int) (RA : Option Addr) (rc : Nat) (w : World) (hx : Row w w.heap.size x.A (icells' x.row)) (hxl : x.row.length ≤ 9223372036854775807) (hr : Row w w.heap.size RA (icells' r)) (hrl : r.length ≤ 9223372036854775807) :
    Calls Tryd.prog 119 #[.agg x.cells.toArray, .slice RA r.length rc] w fun e w' => e = .returned (.int .i64 (cmpL x.row r)) ∧ Below w.heap.size w w' := by
  obtain ⟨xr, xA, xk, xn⟩ := x
  have HC := hid (fun w1 (hb : Below w.heap.size w w1) => orderL_any xr r xA RA xk rc w1 (hx.step hb) (hr.step hb) hxl hrl)
  clear hx hr
  go_enter Tryd.func119, Tryd.ntmps119
  go_wp2_with (go_at_call 50; refine (HC.out _ (alloc_below (Below.refl _ _) _)).mono ?_; rintro e w' ⟨rfl, rfl⟩)
  go_ret
  exact ⟨rfl, alloc_below (Below.refl _ _) _⟩
theorem enters_dis11 : ∀ args w, (callFunc 119 args).run Tryd.prog w = .ok (.enter 119 args) w := fun args w => by kernel_rfl
/-- Where a row is in a set. -/
def BsPost (M : List IR) (r : List Int) (w : World) (e : Ending) (w' : World) : Prop :=
  ∃ (i : Nat) (f : Bool), e = .returned (.tuple #[.int .i64 i, .bool f]) ∧ (f = true → ∃ h : i < M.length, M[i].row = r) ∧ (f = false → ∀ x ∈ M, x.row ≠ r) ∧ Below w.heap.size w w'
theorem strict_at : ∀ {L : List It}, Strict L → ∀ i j (hi : i < L.length) (hj : j < L.length), i < j → cmpL L[i].1 L[j].1 < 0 := fun h i j hi hj hij => List.pairwise_iff_getElem.1 (strict_pair h) i j hi hj hij
set_option maxHeartbeats 1000000 in
set_option maxRecDepth 100000 in
theorem bs_any (M : List IR) (r : List Int) (A RA : Option Addr) (c rc : Nat) (w : World) (hr : RowI w w.heap.size A M) (hl : M.length ≤ 1048576) (hx : Row w w.heap.size RA (icells' r)) (hxl : r.length ≤ 9223372036854775807) (hs : Strict (its M)) :
    Calls Tryd.prog 118 #[.slice A M.length c, .slice RA r.length rc, .func (.func 119) #[] #[]] w (BsPost M r w) := by
  have HR := hid hr
  have HX := hid hx
  have HST := hid (show ∀ i j (hi : i < M.length) (hj : j < M.length), i < j → cmpL M[i].row M[j].row < 0 from fun i j hi hj h => by
    have := strict_at hs i j (by rw [its_len]; exact hi) (by rw [its_len]; exact hj) h
    simpa [its] using this)
  have eg := enters_dis11
  clear hr hx hs
  go_enter Tryd.func118, Tryd.ntmps118
  go_wp2_with fail
  -- STOP-a
  go_loopw [9, 10] (fun s9 s10 wr => ∃ i j : Nat, i ≤ j ∧ j ≤ M.length ∧ s9 = .int .i64 i ∧ s10 = .int .i64 j ∧ Hid (∀ k (h : k < M.length), k < i → cmpL M[k].row r < 0) ∧ Hid (∀ k (h : k < M.length), j ≤ k → 0 ≤ cmpL M[k].row r) ∧ Hid (Below w.heap.size w wr)) (fun s9 s10 _ => (intOf s10).toNat - (intOf s9).toNat)
  case atStart => exact ⟨0, M.length, by omega, by omega, rfl, rfl, hid (fun k _ h => by omega), hid (fun k h h2 => by omega), hid (Below.refl _ _)⟩
  case round =>
    obtain ⟨i, j, hij, hj, rfl, rfl, HL, HG, HB⟩ := hrel
    by_cases hlt : i < j
    · obtain ⟨h, hh⟩ : ∃ h : Nat, h = (i + j) / 2 := ⟨_, rfl⟩
      have hhi : ((i : Int) + (j : Int)) / 2 = (h : Int) := by omega
      have h1 : i ≤ h := by omega
      have h2 : h < j := by omega
      have HHI := hid hhi
      have hlm : h < M.length := by omega
      clear hh
      obtain ⟨b, off, rfl, hb, h0, h3⟩ := (HR.out.1.step HB.out).it hlm
      have HRW := hid (((HR.out.2.step HB.out) M[h] (List.getElem_mem hlm)))
      have HSL := hid (fun k (hk : k < M.length) (q : k < h) => HST.out k h hk hlm q)
      have HSG := hid (fun k (hk : k < M.length) (q : h < k) => HST.out h k hlm hk q)
      have HRF := hid (show ∀ k (hk : k < M.length), k = h → M[k].row = M[h].row from fun k hk e => by subst e; rfl)
      generalize M[h] = d at *
      obtain ⟨xr, xA, xk, xn⟩ := d
      simp only at h0 h3 HRW HSL HSG HRF
      have HC := hid (dis11_any ⟨xr, xA, xk, xn⟩ r RA rc wr HRW.out.1 HRW.out.2 (HX.out.step HB.out) hxl)
      simp only [IR.cells] at HC
      obtain ⟨cv, hcv⟩ : ∃ q, q = cmpL xr r := ⟨_, rfl⟩
      rw [← hcv] at HC
      have HCV := hid hcv
      clear hcv
      by_cases hz : cv < 0
      · have tz : (cv < 0) = True := eq_true hz
        go_wp2_with (refine (HC.out).mono ?_; rintro e w1 ⟨rfl, hb1⟩)
        go_roundw
        case rel =>
          refine ⟨h + 1, j, by omega, hj, by go_num, rfl, hid (fun k hk q => ?_), HG, hid (Below.step' HB.out hb1)⟩
          rcases Nat.lt_or_ge k h with e | e
          · exact cmpL_lt_le (HSL.out k hk e) (by rw [← HCV.out]; omega)
          · rw [HRF.out k hk (by omega), ← HCV.out]; exact hz
        case measure => simp [intOf]; omega
      · have tz : (cv < 0) = False := eq_false hz
        go_wp2_with (refine (HC.out).mono ?_; rintro e w1 ⟨rfl, hb1⟩)
        go_roundw
        case rel =>
          refine ⟨i, h, by omega, by omega, rfl, rfl, HL, hid (fun k hk q => ?_), hid (Below.step' HB.out hb1)⟩
          rcases Nat.lt_or_ge h k with e | e
          · have h4 := HSG.out k hk e
            have h5 := cmpL_neg xr r
            have h6 := cmpL_neg M[k].row r
            have h7 := cmpL_le_lt (a := r) (b := xr) (c := M[k].row) (by rw [h5, ← HCV.out]; omega) h4
            omega
          · rw [HRF.out k hk (by omega), ← HCV.out]; omega
        case measure => simp [intOf]; omega
    · obtain rfl : i = j := by omega
      by_cases hin : i < M.length
      · obtain ⟨b, off, rfl, hb, h0, h3⟩ := (HR.out.1.step HB.out).it hin
        have HRW := hid (((HR.out.2.step HB.out) M[i] (List.getElem_mem hin)))
        have HSG := hid (fun k (hk : k < M.length) (q : i < k) => HST.out i k hin hk q)
        have HRF := hid (show ∀ k (hk : k < M.length), k = i → M[k].row = M[i].row from fun k hk e => by subst e; rfl)
        have HMI := hid (show ∃ h : i < M.length, M[i].row = M[i].row from ⟨hin, rfl⟩)
        generalize hd : M[i] = d at h0 h3 HRW HSG HRF
        have HD := hid hd
        clear hd
        obtain ⟨xr, xA, xk, xn⟩ := d
        simp only at h0 h3 HRW HSG HRF
        have HC := hid (dis11_any ⟨xr, xA, xk, xn⟩ r RA rc wr HRW.out.1 HRW.out.2 (HX.out.step HB.out) hxl)
        simp only [IR.cells] at HC
        obtain ⟨cv, hcv⟩ : ∃ q, q = cmpL xr r := ⟨_, rfl⟩
        rw [← hcv] at HC
        have HCV := hid hcv
        clear hcv
        go_wp2_with (refine (HC.out).mono ?_; rintro e w1 ⟨rfl, hb1⟩)
        -- STOP-c
        go_ret2
        have hrow : M[i].row = xr := by rw [HD.out]
        refine ⟨i, cv == 0, rfl, fun hf => ⟨hin, ?_⟩, fun hf x hx e => ?_, Below.step' HB.out hb1⟩
        · rw [hrow]
          exact cmpL_eq _ _ (by rw [← HCV.out]; simpa using hf)
        · obtain ⟨k, hk, rfl⟩ := List.getElem_of_mem hx
          have hcv0 : cv ≠ 0 := by simpa using hf
          have hge : 0 ≤ cmpL xr r := by have := HG.out i hin (Nat.le_refl _); rwa [hrow] at this
          rcases Nat.lt_trichotomy k i with q | q | q
          · have := HL.out k hk q
            rw [e, cmpL_self] at this; omega
          · rw [HRF.out k hk q] at e
            rw [e, cmpL_self] at HCV
            exact hcv0 HCV.out
          · have := HSG.out k hk q
            rw [e] at this; omega
      · go_wp2_with fail
        -- STOP-d
        go_ret2
        refine ⟨i, false, rfl, fun hf => (by cases hf), fun _ x hx e => ?_, HB.out⟩
        obtain ⟨k, hk, rfl⟩ := List.getElem_of_mem hx
        have := HL.out k hk (by omega)
        rw [e, cmpL_self] at this; omega
theorem enters_dis1 : ∀ args w, (callFunc 117 args).run Tryd.prog w = .ok (.enter 117 args) w := fun args w => by kernel_rfl
theorem enters_dis2 : ∀ args w, (callFunc 120 args).run Tryd.prog w = .ok (.enter 120 args) w := fun args w => by kernel_rfl
theorem its_mem {M : List IR} {x : IR} (h : x ∈ M) : x.it ∈ its M := List.mem_map.2 ⟨x, h, rfl⟩
theorem strict_mem' : ∀ {L : List It}, Strict L → ∀ x ∈ L, wt L x.1 = x.2
  | y :: L, h, x, hx => by
    rcases List.mem_cons.1 hx with e | e
    · rw [e]; exact strict_wt h
    · have h1 := strict_mem' h.tail x e
      rw [strict_wt_tail h, if_neg (fun q => by
        have := h.2.2.1 x e
        rw [q, cmpL_self] at this; omega)] at h1
      exact h1
set_option maxHeartbeats 1000000 in
set_option maxRecDepth 100000 in
/-- have: how many times a row is there. -/
theorem dis1_any (M : List IR) (r : List Int) (A RA : Option Addr) (c rc b1 : Nat) (w : World) (hr : RowI w w.heap.size A M) (hl : M.length ≤ 1048576) (hx : Row w w.heap.size RA (icells' r)) (hxl : r.length ≤ 9223372036854775807) (hs : Strict (its M))
    (hb : Blk w b1 #[.slice A M.length c] 22) :
    Calls Tryd.prog 117 #[.slice RA r.length rc, .pointer (some ⟨b1, 0, none⟩)] w fun e w' => e = .returned (.int .i64 (wt (its M) r)) ∧ Below w.heap.size w w' := by
  have HC := hid (bs_any M r A RA c rc w hr hl hx hxl hs)
  have HR := hid hr
  have HS := hid hs
  have HXB := hid hb
  clear hr hx hs hb
  go_enter Tryd.func117, Tryd.ntmps117
  obtain ⟨cHXB, fHXB, sHXB, nHXB⟩ := HXB.out.all
  try simp only [cbox] at cHXB
  go_wp2_with fail
  refine HC.out.mono ?_
  rintro e w1 ⟨i, f, rfl, hf1, hf2, hb1⟩
  clear cHXB fHXB sHXB nHXB
  replace HXB := hid (HXB.out.step hb1)
  have HB := hid hb1
  have HF1 := hid hf1
  have HF2 := hid hf2
  clear hf1 hf2 hb1 HC
  cases f
  · have HN := hid (show wt (its M) r = 0 from by
      unfold wt
      rw [tot_none fun y hy e => by
        obtain ⟨x, hx, rfl⟩ := List.mem_map.1 hy
        exact HF2.out rfl x hx e]
      rfl)
    go_wp2_with fail
    go_ret
    rw [HN.out]
    exact ⟨rfl, HB.out⟩
  · obtain ⟨hi, hrow⟩ := HF1.out rfl
    obtain ⟨b, off, rfl, hb, h0, h3⟩ := (HR.out.1.step HB.out).it hi
    have HN := hid (show wt (its M) r = M[i].n from by
      have := strict_mem' HS.out _ (its_mem (List.getElem_mem hi))
      rw [← hrow]; exact this)
    clear hrow h0
    generalize M[i].n = n at *
    have hil : (i : Int) < (M.length : Int) := by omega
    obtain ⟨cHXB, fHXB, sHXB, nHXB⟩ := HXB.out.all
    try simp only [cbox] at cHXB
    go_wp2_with fail
    go_ret
    rw [HN.out]
    exact ⟨rfl, HB.out⟩
theorem dis2_any (n : Int) (w : World) : Calls Tryd.prog 120 #[.int .i64 n] w fun e w' => e = .returned (.int .i64 (onceI n)) ∧ w = w' := by
  have HO := hid (onceI_eq n)
  go_enter Tryd.func120, Tryd.ntmps120
  go_wp2_with fail
  -- STOP-e
  go_ret
  rw [HO.out]
  exact ⟨rfl, rfl⟩
def distN (A : List It) (x : IR) : Int := onceI (wrp (wt A x.row + x.n)) - onceI (wt A x.row)
def distDM (A : List It) (M : List IR) : List IR := (M.filter (fun x => decide (distN A x ≠ 0))).map (fun x => ⟨x.row, x.A, x.k, distN A x⟩)
theorem distDM_its (A : List It) (M : List IR) : its (distDM A M) = distD A (its M) := by
  unfold distDM distD its
  rw [List.filter_map, List.map_map, List.map_map]
  rfl
theorem distDM_rows {w : World} {B : Nat} {A : List It} {M : List IR} (h : RowsAt w B M) : RowsAt w B (distDM A M) := fun y hy => by
  obtain ⟨x, hx, rfl⟩ := List.mem_map.1 hy
  exact h x (List.mem_filter.1 hx).1
theorem distDM_snoc (A : List It) (M : List IR) (i : Nat) (hi : i < M.length) : distDM A (M.take (i + 1)) = distDM A (M.take i) ++ (if distN A M[i] ≠ 0 then [⟨M[i].row, M[i].A, M[i].k, distN A M[i]⟩] else []) := by
  unfold distDM
  rw [List.take_succ_eq_append_getElem hi, List.filter_append, List.map_append, List.filter_cons, List.filter_nil]
  by_cases q : distN A M[i] ≠ 0
  · rw [if_pos (decide_eq_true q), if_pos q]; rfl
  · rw [if_neg (by simpa using q), if_neg q]; rfl
theorem distDM_len (A : List It) (M : List IR) (i : Nat) : (distDM A (M.take i)).length ≤ i := by
  unfold distDM
  rw [List.length_map]
  exact Nat.le_trans (List.length_filter_le _ _) (List.length_take_le _ _)
theorem onceI_in (n : Int) : 0 ≤ onceI n ∧ onceI n ≤ 1 := by unfold onceI; split <;> omega
set_option maxHeartbeats 2000000 in
set_option maxRecDepth 100000 in
theorem distinct_any (M1 M2 : List IR) (A1 A2 : Option Addr) (c1 c2 : Nat) (w : World) (h1 : RowI w w.heap.size A1 M1) (l1 : M1.length ≤ 1048576) (h2 : RowI w w.heap.size A2 M2) (l2 : M2.length ≤ 1048576) (hs : Strict (its M1)) :
    Calls Tryd.prog 89 #[.slice A1 M1.length c1, .slice A2 M2.length c2] w (LiPost (distD (its M1) (its M2)) w) := by
  have HR2 := hid h2
  have HDI := hid (distDM_its (its M1) M2)
  obtain ⟨W, hW⟩ : ∃ W : World, W = w.alloc (.cells #[.slice A1 M1.length c1] 22) := ⟨_, rfl⟩
  have HB := hid (show Below w.heap.size w W by rw [hW]; exact alloc_below (Below.refl _ _) _)
  have HXB := hid (show Blk W w.heap.size #[.slice A1 M1.length c1] 22 by rw [hW]; exact Blk.new _ _ _)
  have HHV := hid (fun (w1 : World) (hb : Below W.heap.size W w1) (r : List Int) (RA : Option Addr) (rc : Nat) (hx : Row w1 w1.heap.size RA (icells' r)) (hxl : r.length ≤ 9223372036854775807) => dis1_any M1 r A1 RA c1 rc w.heap.size w1 ((h1.step HB.out).step hb) l1 hx hxl hs (HXB.out.step hb))
  have hwi := fun r => wrp_in (tot r (its M1))
  have HDN := hid (fun x : IR => show distN (its M1) x = onceI (wrp (wt (its M1) x.row + x.n)) - onceI (wt (its M1) x.row) from rfl)
  have HSN := hid (fun i hi => distDM_snoc (its M1) M2 i hi)
  have HLE := hid (fun i => distDM_len (its M1) M2 i)
  have HRA := hid (fun (w1 : World) (h : RowsAt w1 w1.heap.size M2) => distDM_rows (A := its M1) h)
  obtain ⟨S, hS⟩ : ∃ S, S = its M1 := ⟨_, rfl⟩
  rw [← hS] at HHV HDN HSN HLE HRA HDI hwi ⊢
  have HWI := hid hwi
  clear h1 h2 hs hS hwi
  have e1 := enters_dis1
  have e2 := enters_dis2
  go_enter Tryd.func89, Tryd.ntmps89
  go_upto_region 1 with fail
  rw [← hW]
  clear hW
  go_wp2_with fail
  -- STOP-f
  go_loopw [7, 15] (fun s7 s15 wr => ∃ i : Nat, i ≤ M2.length ∧ s15 = .int .i64 i ∧ Hid (wr.ownsRow W.heap.size 51 2 s7 (distDM S (M2.take i)).length (rcells (distDM S (M2.take i)))) ∧ Hid (Below W.heap.size W wr)) (fun _ s15 _ => M2.length - (intOf s15).toNat)
  case atStart => exact ⟨0, by omega, rfl, hid (by simpa [distDM] using World.ownsRow_nil _ _ _ _), hid (Below.refl _ _)⟩
  case round =>
    obtain ⟨i, hi, rfl, HOWN, HBO⟩ := hrel
    obtain ⟨A5, c5, rfl⟩ := own_formS HOWN.out
    have hso := HBO.out.size
    have HBW := hid (Below.step' HB.out HBO.out)
    have hOl := HLE.out i
    by_cases hlt : i < M2.length
    · obtain ⟨b, off, rfl, hb, q0, q1⟩ := (HR2.out.1.step HBW.out).it hlt
      have HFI := hid (HSN.out i hlt)
      have HRW := hid ((HR2.out.2.step HBW.out) M2[i] (List.getElem_mem hlt))
      generalize M2[i] = x at *
      obtain ⟨xr, xA, xk, xn⟩ := x
      simp only at q0 q1 HFI HRW
      have HNE := hid (HDN.out ⟨xr, xA, xk, xn⟩)
      simp only at HNE
      obtain ⟨O, hO⟩ : ∃ O, O = distDM S (M2.take i) := ⟨_, rfl⟩
      rw [← hO] at HOWN HFI hOl ⊢
      clear hO
      obtain ⟨d, hd⟩ : ∃ d, d = distN S ⟨xr, xA, xk, xn⟩ := ⟨_, rfl⟩
      rw [← hd] at HFI HNE
      clear hd
      have hww := HWI.out xr
      have HHW := hid (fun w1 hb RA rc hx => HHV.out w1 hb xr RA rc hx HRW.out.2)
      obtain ⟨n, hn⟩ : ∃ n, n = wt S xr := ⟨_, rfl⟩
      have hww2 : -9223372036854775808 ≤ n ∧ n ≤ 9223372036854775807 := by rw [hn]; exact hww
      rw [← hn] at HHW HNE
      clear hn hww
      have hwr := wrp_in (n + xn)
      obtain ⟨m, hm⟩ : ∃ m, m = wrp (n + xn) := ⟨_, rfl⟩
      have hm2 : IntKind.i64.wrap (n + xn) = m := hm.symm
      rw [← hm] at HNE hwr
      clear hm
      have o1 := onceI_in m
      have o2 := onceI_in n
      have HO1 := hid (fun w => dis2_any m w)
      have HO2 := hid (fun w => dis2_any n w)
      obtain ⟨u, hu⟩ : ∃ u, u = onceI m := ⟨_, rfl⟩
      obtain ⟨v, hv⟩ : ∃ u, u = onceI n := ⟨_, rfl⟩
      rw [← hu] at HO1 HNE o1
      rw [← hv] at HO2 HNE o2
      have hdq : u - v = d := HNE.out.symm
      have hdw : IntKind.i64.wrap d = d := IntWalk.i64_in _ (by omega)
      clear hu hv
      obtain ⟨W1, hW1⟩ : ∃ W1 : World, W1 = wr.alloc (.cells #[.slice xA xr.length xk, .int .i64 xn] 51) := ⟨_, rfl⟩
      have HB1 := hid (show Below wr.heap.size wr W1 by rw [hW1]; exact alloc_below (Below.refl _ _) _)
      have HXI := hid (show Blk W1 wr.heap.size #[.slice xA xr.length xk, .int .i64 xn] 51 by rw [hW1]; exact Blk.new _ _ _)
      have HO1' := hid (own_laterS HOWN.out HB1.out)
      have HRX := hid (HRW.out.1.step HB1.out)
      go_upto_region 7 with fail
      rw [← hW1]
      clear hW1
      obtain ⟨cHXI, fHXI, sHXI, nHXI⟩ := HXI.out.all
      try simp only [cbox] at cHXI
      go_wp2_with fail
      -- STOP-g
      refine (HHW.out _ (Below.step' HBO.out HB1.out) xA xk HRX.out).mono ?_
      rintro e w2 ⟨rfl, hb2⟩
      clear cHXI fHXI sHXI nHXI
      replace HXI := hid (HXI.out.step hb2)
      have HB2 := hid (Below.step' HB1.out hb2)
      have HO2' := hid (own_laterS HO1'.out hb2)
      have HRX2 := hid (HRX.out.step hb2)
      clear hb2 HO1' HRX
      obtain ⟨cHXI, fHXI, sHXI, nHXI⟩ := HXI.out.all
      try simp only [cbox] at cHXI
      go_wp2_with fail
      refine (HO1.out _).mono ?_
      rintro e w3 ⟨rfl, rfl⟩
      go_wp2_with fail
      refine (HO2.out _).mono ?_
      rintro e w3 ⟨rfl, rfl⟩
      by_cases hz : d = 0
      · have HFJ := hid (show distDM S (M2.take (i + 1)) = O by rw [HFI.out, if_neg (by simp [hz]), List.append_nil])
        have t1 : (d != 0) = false := by simp [hz]
        clear hz
        go_wp2_with fail
        go_roundw
        case rel => exact ⟨i + 1, by omega, by go_num, hid (by rw [HFJ.out]; exact HO2'.out), hid (Below.step' HBO.out HB2.out)⟩
        case measure => simp [intOf]; omega
      · have HFJ := hid (show distDM S (M2.take (i + 1)) = O ++ [⟨xr, xA, xk, d⟩] by rw [HFI.out, if_pos hz])
        have t1 : (d != 0) = true := by simp [hz]
        clear hz
        go_wp2_with (at_builtin; refine wpList_append_row elem_item rfl _ _ rfl W.heap.size _ _ _ rfl (HO2'.out.alloc _) (some ⟨w2.heap.size, 0, none⟩) 1 1 (w2.heap.size + 1) [.slice xA xr.length xk, .int .i64 d] rfl rfl (by exact Row.new' w2 _ _ rfl rfl (Nat.lt_succ_self _)) (rcells_one [⟨xr, xA, xk, d⟩]) ?_ ?_ ?_ ?_; rotate_right; intro v7 w7 hown7 hg7 hif7; rotate_left; (simp only [maxLen]; omega); (omega); (have := HB2.out.size; simp; omega))
        have HOW7 := hid hown7
        have HG7 := hid hg7
        clear hown7 hg7 hif7
        -- STOP-h
        go_roundw
        case rel =>
          refine ⟨i + 1, by omega, by go_num, hid ?_, hid (Below.grown (alloc_below (Below.step' HBO.out HB2.out) _) HG7.out (by have := HB2.out.size; simp; omega) (fun g e => (HO2'.out.lt g e).1))⟩
          rw [HFJ.out, rcells_app, List.length_append]
          exact HOW7.out
        case measure => simp [intOf]; omega
    · have hik : i = M2.length := by omega
      subst hik
      rw [List.take_length] at HOWN ⊢
      clear hOl
      go_wp2_with fail
      go_ret
      exact ⟨A5, c5, distDM S M2, rfl, HDI.out, ⟨Row.of_ownS HOWN.out, HRA.out _ (HR2.out.2.step HBW.out)⟩, HBW.out⟩
end Go.Proofs.YtldlmkfigjicgaaDoor
/- Maps of groups that hold no nought. -/
namespace Go.Proofs.YtldlmkfigjicgaaDoor
set_option linter.unusedVariables false
set_option linter.unusedSimpArgs false
open Go.ChangeShapes Go.WideShapes Go.ChangeAt Go.RowKit

/-- A map of groups: of each number how many and their sum; no entry where both are 0. -/
def FMap (N S : Int → Int) (D : DataW Unit) : Prop :=
  Maps.IsMap D ∧ ∀ k : Int, Maps.has D (kI k) = decide (¬ (N k = 0 ∧ S k = 0)) ∧ (¬ (N k = 0 ∧ S k = 0) → ∀ z, D.atKey (kI k) z = grpD (N k) (S k))
theorem FMap.nil : FMap (fun _ => 0) (fun _ => 0) (.map []) := ⟨Maps.isMap_empty, fun k => ⟨rfl, fun h => absurd ⟨rfl, rfl⟩ h⟩⟩
theorem FMap.at {N S : Int → Int} {D : DataW Unit} (h : FMap N S D) (k : Int) : D.atKey (kI k) (grpD 0 0) = grpD (N k) (S k) := by
  obtain ⟨h1, h2⟩ := h.2 k
  by_cases q : N k = 0 ∧ S k = 0
  · rw [q.1, q.2]
    exact Maps.atKey_of_not_has (by rw [h1]; simpa using q) _
  · exact h2 q _
/-- One number's group turned. -/
def updI (f : Int → Int) (k v : Int) : Int → Int := fun q => if q = k then v else f q
theorem updI_same (f : Int → Int) (k v : Int) : updI f k v k = v := if_pos rfl
theorem updI_other (f : Int → Int) {k q : Int} (v : Int) (h : q ≠ k) : updI f k v q = f q := if_neg h
theorem FMap.put {N S : Int → Int} {D : DataW Unit} (h : FMap N S D) (k n m : Int) (hz : ¬ (n = 0 ∧ m = 0)) : FMap (updI N k n) (updI S k m) (D.put (kI k) (grpD n m)) := by
  refine ⟨h.1.put _ _, fun q => ?_⟩
  by_cases e : q = k
  · subst e
    rw [updI_same, updI_same, Maps.has_put_same h.1 (isKeyI _)]
    exact ⟨(decide_eq_true hz).symm, fun _ z => Maps.atKey_put_same h.1 (isKeyI _) _ _⟩
  · rw [updI_other _ _ e, updI_other _ _ e, Maps.has_put_other (kI_ne e)]
    refine ⟨(h.2 q).1, fun hq z => ?_⟩
    rw [Maps.atKey_put_other (kI_ne e)]
    exact (h.2 q).2 hq z
theorem FMap.drop {N S : Int → Int} {D : DataW Unit} (h : FMap N S D) (k : Int) (d : DataW Unit) : FMap (updI N k 0) (updI S k 0) ((D.put (kI k) d).del (kI k)) := by
  refine ⟨(h.1.put _ _).del _, fun q => ?_⟩
  by_cases e : q = k
  · subst e
    rw [updI_same, updI_same, Maps.has_del_same]
    exact ⟨rfl, fun hq => absurd ⟨rfl, rfl⟩ hq⟩
  · rw [updI_other _ _ e, updI_other _ _ e, Maps.has_del_other (kI_ne e), Maps.has_put_other (kI_ne e)]
    refine ⟨(h.2 q).1, fun hq z => ?_⟩
    rw [Maps.atKey_del_other (kI_ne e), Maps.atKey_put_other (kI_ne e)]
    exact (h.2 q).2 hq z
theorem nodup_len : ∀ {l K : List Int}, l.Nodup → (∀ x ∈ l, x ∈ K) → l.length ≤ K.length
  | [], _, _, _ => Nat.zero_le _
  | x :: l, K, hn, hs => by
    have hx : x ∈ K := hs x (by simp)
    have := nodup_len (l := l) (K := K.erase x) (List.nodup_cons.1 hn).2 fun y hy => (List.mem_erase_of_ne (fun e => (List.nodup_cons.1 hn).1 (by rw [← e]; exact hy))).2 (hs y (by simp [hy]))
    rw [List.length_erase_of_mem hx] at this
    have : 0 < K.length := List.length_pos_of_mem hx
    simp only [List.length_cons]; omega
/-- A map of groups has no more entries than it reads as. -/
theorem ownsMap_tight {w : World} {b n : Nat} {D : DataW Unit} (h : w.ownsMap Tryd.prog 3 grpElem b n D) {K : List Int} (hK : ∀ k : Int, Maps.has D (kI k) = true → k ∈ K) : w.ownsMap Tryd.prog 3 grpElem b K.length D := by
  obtain ⟨L, hL, hp, hk⟩ := h.entries int_law
  obtain ⟨es, clock, hb, F, hs, hD⟩ := h
  refine ⟨es, clock, hb, F, ?_, hD⟩
  have hlen : L.length = es.size := by
    rw [hL] at hD
    injection hD with hD
    rw [hD, length_sorted, List.length_map]; simp
  have hsh : ∀ p ∈ L, ∃ k : Int, p.1 = kI k := fun p hp2 => by
    rw [hL] at hD
    injection hD with hD
    rw [hD] at hp2
    obtain ⟨x, hx, rfl⟩ := List.mem_map.1 (mem_sorted.1 hp2)
    obtain ⟨y, hy⟩ := F.reads x hx
    rw [Go.WideElems.rg_of hy]
    obtain ⟨z, -, e, -⟩ := Maps.keyOf_int_inv Tryd.underlying3 (Go.WideElems.rd_key hy)
    exact ⟨z, e⟩
  have hhas : ∀ p ∈ L, Maps.has D p.1 = true := fun p hp2 => by
    rw [hL, Maps.has_eq, List.any_eq_true]
    obtain ⟨k, e⟩ := hsh p hp2
    exact ⟨p, hp2, by rw [e]; simp [Lit.sameKey]⟩
  rw [← hlen]
  -- the keys, as numbers
  let f : Lit × DataW Unit → Int := fun p => match p.1 with | .int _ k => k | _ => 0
  have hf : ∀ p ∈ L, p.1 = kI (f p) := fun p hp2 => by
    obtain ⟨k, e⟩ := hsh p hp2
    show p.1 = kI (match p.1 with | .int _ k => k | _ => 0)
    rw [e]
  have hnd : (L.map f).Nodup := by
    refine List.pairwise_map.2 (List.Pairwise.imp_of_mem ?_ hp)
    intro a b ha hb2 hne e
    exact hne (by rw [hf a ha, hf b hb2, e])
  have hsub : ∀ k ∈ L.map f, k ∈ K := fun k hk2 => by
    obtain ⟨p, hp2, rfl⟩ := List.mem_map.1 hk2
    exact hK _ (by rw [← hf p hp2]; exact hhas p hp2)
  have := nodup_len hnd hsub
  simpa using this
theorem FMap.congr {N S N' S' : Int → Int} {D : DataW Unit} (h : FMap N S D) (hN : ∀ k, N k = N' k) (hS : ∀ k, S k = S' k) : FMap N' S' D := by
  have e1 : N = N' := funext hN
  have e2 : S = S' := funext hS
  rw [← e1, ← e2]; exact h
theorem kI_same (q k : Int) : (kI q).sameKey (kI k) = decide (q = k) := by
  by_cases e : q = k
  · subst e; simp [Lit.sameKey]
  · have : kI q ≠ kI k := kI_ne e
    rw [decide_eq_false e]
    simp [Lit.sameKey, e]
/-- Of what a map has that part that was met. -/
def metF (f : Int → Int) (left : Lit → Bool) : Int → Int := fun q => if left (kI q) = true then 0 else f q
theorem metF_step (f : Int → Int) {left : Lit → Bool} {k : Int} (hk : left (kI k) = true) (q : Int) : metF f (fun z => left z && !z.sameKey (kI k)) q = updI (metF f left) k (f k) q := by
  unfold metF
  by_cases e : q = k
  · subst e
    rw [updI_same]; simp [kI_same]
  · rw [updI_other _ _ e]; simp [kI_same, e]
theorem metF_end (f : Int → Int) {left : Lit → Bool} (h : ∀ kl, left kl = false) (q : Int) : metF f left q = f q := by
  unfold metF; rw [h]; simp
theorem metF_start {N S : Int → Int} {D : DataW Unit} (h : FMap N S D) (q : Int) : metF N (Maps.has D) q = 0 ∧ metF S (Maps.has D) q = 0 := by
  unfold metF
  obtain ⟨h1, -⟩ := h.2 q
  rw [h1]
  by_cases e : N q = 0 ∧ S q = 0
  · simp [e.1, e.2]
  · simp [e]
/-- What was there, and of what was met what is there then. -/
def turnF (f g : Int → Int) (K : List Int) (left : Lit → Bool) : Int → Int := fun q => if q ∈ K ∧ left (kI q) = false then wrp (f q + g q) else f q
theorem turnF_step (f g : Int → Int) {K : List Int} {left : Lit → Bool} {k : Int} (hK : k ∈ K) (hk : left (kI k) = true) (q : Int) : turnF f g K (fun z => left z && !z.sameKey (kI k)) q = updI (turnF f g K left) k (wrp (f k + g k)) q := by
  unfold turnF
  by_cases e : q = k
  · subst e
    rw [updI_same]; simp [kI_same, hK]
  · rw [updI_other _ _ e]; simp [kI_same, e]
theorem turnF_left (f g : Int → Int) {K : List Int} {left : Lit → Bool} {k : Int} (hk : left (kI k) = true) : turnF f g K left k = f k := by
  unfold turnF; simp [hk]
theorem turnF_start (f g : Int → Int) {s : St} {a : List It} {D : DataW Unit} (h : GMap s a D) (q : Int) : turnF f g (keysG s a) (Maps.has D) q = f q := by
  unfold turnF
  by_cases hq : q ∈ keysG s a
  · have h1 := (h.2 q).1
    have h2 := (dedupI_mem _ _).1 hq
    rw [h1, if_neg]
    rintro ⟨-, e⟩
    have : decide (q ∈ colsG s a) = true := decide_eq_true h2
    rw [this] at e; cases e
  · rw [if_neg fun e => hq e.1]
theorem turnF_end (f g : Int → Int) {K : List Int} {left : Lit → Bool} (h : ∀ kl, left kl = false) (hg : ∀ q, q ∉ K → wrp (f q + g q) = f q) (q : Int) : turnF f g K left q = wrp (f q + g q) := by
  unfold turnF
  by_cases hq : q ∈ K
  · rw [if_pos ⟨hq, h _⟩]
  · rw [if_neg fun e => hq e.1, hg q hq]
theorem grp_wrp (s : St) (A a : List It) (q : Int) (h : q ∉ keysG s a) : wrp (grpN s A q + grpN s a q) = grpN s A q := by
  rw [(grp_out h).1, Int.add_zero]; exact wrp_wrp _
theorem grp_wrp2 (s : St) (A a : List It) (q : Int) (h : q ∉ keysG s a) : wrp (grpS s A q + grpS s a q) = grpS s A q := by
  rw [(grp_out h).2, Int.add_zero]
  unfold grpS; split
  · exact wrp_wrp _
  · rfl
/-- The rows of groups that were met. -/
def doneR (s : St) (A a : List It) (left : Lit → Bool) : List It := ((keysG s a).filter (fun k => !left (kI k))).flatMap (fun k => negL (toldL s k (grpN s A k) (grpS s A k)) ++ toldL s k (wrp (grpN s A k + grpN s a k)) (wrp (grpS s A k + grpS s a k)))
theorem flatMap_permR {f : Int → List It} {a b : List Int} (h : a.Perm b) : (a.flatMap f).Perm (b.flatMap f) := by
  induction h with
  | nil => exact List.Perm.refl _
  | cons x _ ih => rw [List.flatMap_cons, List.flatMap_cons]; exact ih.append_left _
  | swap x y l => rw [List.flatMap_cons, List.flatMap_cons, List.flatMap_cons, List.flatMap_cons, ← List.append_assoc, ← List.append_assoc]; exact List.perm_append_comm.append_right _
  | trans _ _ h1 h2 => exact h1.trans h2
theorem filter_moreR {l : List Int} (hn : l.Nodup) {x : Int} (hx : x ∈ l) {p q : Int → Bool} (hp : p x = false) (hq : ∀ y, q y = (p y || decide (y = x))) : (l.filter q).Perm (l.filter p ++ [x]) := by
  induction l with
  | nil => simp at hx
  | cons y l ih =>
    have hny := (List.nodup_cons.1 hn).1
    have hnl := (List.nodup_cons.1 hn).2
    by_cases e : y = x
    · subst e
      have hrest : l.filter q = l.filter p := List.filter_congr fun z hz => by
        rw [hq z]
        have : z ≠ y := fun e => hny (e ▸ hz)
        simp [this]
      rw [List.filter_cons_of_pos (by rw [hq]; simp), List.filter_cons_of_neg (by simp [hp]), hrest]
      exact (List.perm_append_comm (l₁ := [y]) (l₂ := l.filter p))
    · have hx' : x ∈ l := by
        rcases List.mem_cons.1 hx with h | h
        · exact absurd h.symm e
        · exact h
      have ih' := ih hnl hx'
      by_cases hpy : p y = true
      · rw [List.filter_cons_of_pos (by rw [hq]; simp [hpy]), List.filter_cons_of_pos hpy]
        exact ih'.cons y
      · rw [List.filter_cons_of_neg (by rw [hq]; simp [hpy, e]), List.filter_cons_of_neg hpy]
        exact ih'
theorem doneR_step (s : St) (A a : List It) {left : Lit → Bool} {k : Int} (hk : k ∈ keysG s a) (hl : left (kI k) = true) :
    (doneR s A a (fun z => left z && !z.sameKey (kI k))).Perm (doneR s A a left ++ (negL (toldL s k (grpN s A k) (grpS s A k)) ++ toldL s k (wrp (grpN s A k + grpN s a k)) (wrp (grpS s A k + grpS s a k)))) := by
  have h := filter_moreR (l := keysG s a) (dedupI_nodup _) hk (p := fun q => !left (kI q)) (q := fun q => !(left (kI q) && !(kI q).sameKey (kI k))) (by simp [hl]) fun y => by
    rw [kI_same]; simp
  have h2 := flatMap_permR (f := fun k => negL (toldL s k (grpN s A k) (grpS s A k)) ++ toldL s k (wrp (grpN s A k + grpN s a k)) (wrp (grpS s A k + grpS s a k))) h
  rw [List.flatMap_append] at h2
  unfold doneR
  refine h2.trans ?_
  rw [List.flatMap_cons, List.flatMap_nil, List.append_nil]
theorem doneR_start (s : St) (A a : List It) {D : DataW Unit} (h : GMap s a D) : doneR s A a (Maps.has D) = [] := by
  unfold doneR
  have : (keysG s a).filter (fun k => !Maps.has D (kI k)) = [] := List.filter_eq_nil_iff.2 fun k hk => by
    rw [(h.2 k).1]
    have := (dedupI_mem _ _).1 hk
    simp [colsG, this]
  rw [this]; rfl
theorem doneR_end (s : St) (A a : List It) {left : Lit → Bool} (h : ∀ kl, left kl = false) : doneR s A a left = grpMore s A a := by
  unfold doneR grpMore
  rw [List.filter_eq_self.2 fun k _ => by rw [h]; rfl]
theorem toldL_lenR (s : St) (k n m : Int) : (toldL s k n m).length ≤ 1 := by unfold toldL; split <;> simp
theorem doneR_len (s : St) (A a : List It) (left : Lit → Bool) : (doneR s A a left).length ≤ a.length * 2 := by
  unfold doneR
  have h1 := flat_le (fun k => negL (toldL s k (grpN s A k) (grpS s A k)) ++ toldL s k (wrp (grpN s A k + grpN s a k)) (wrp (grpS s A k + grpS s a k))) 2 ((keysG s a).filter (fun k => !left (kI k))) fun k _ => by
    rw [List.length_append, negL, List.length_map]
    have := toldL_lenR s k (grpN s A k) (grpS s A k)
    have := toldL_lenR s k (wrp (grpN s A k + grpN s a k)) (wrp (grpS s A k + grpS s a k))
    omega
  have h2 := List.length_filter_le (fun k => !left (kI k)) (keysG s a)
  have h3 := dedupI_len (a.map (fun x => colD x.1 s.col))
  rw [List.length_map] at h3
  have h4 : (keysG s a).length ≤ a.length := h3
  omega
theorem grpMore_len (s : St) (A a : List It) : (grpMore s A a).length ≤ a.length * 2 := by
  rw [← doneR_end s A a (left := fun _ => false) (fun _ => rfl)]
  exact doneR_len s A a _
end Go.Proofs.YtldlmkfigjicgaaDoor
/- plain.Join: the map from a column's numbers to lists of items. -/
namespace Go.Proofs.YtldlmkfigjicgaaDoor
set_option linter.unusedVariables false
set_option linter.unusedSimpArgs false
open Go.ChangeShapes Go.WideShapes Go.ChangeAt Go.RowKit

def natD (n : Nat) : DataW Unit := .lit (.int .i64 (n : Int))
theorem natD_inj {a b : Nat} (h : natD a = natD b) : a = b := by
  unfold natD at h
  injection h with h
  injection h with _ h
  omega
def slD (A : Option Addr) (n c : Nat) : DataW Unit := match A with
  | none => .agg [.nil, natD n, natD c]
  | some ⟨b, off, _⟩ => .agg [.agg [natD b, natD off], natD n, natD c]
def slElem : Value → Option (DataW Unit × List MemPlace)
  | .slice none n c => some (slD none n c, [])
  | .slice (some ⟨b, off, none⟩) n c => some (slD (some ⟨b, off, none⟩) n c, [])
  | _ => none
def Plain (A : Option Addr) : Prop := ∀ b off q, A = some ⟨b, off, q⟩ → q = none
theorem slElem_mk {A : Option Addr} (h : Plain A) (n c : Nat) : slElem (.slice A n c) = some (slD A n c, []) := by
  rcases A with _ | ⟨b, off, q⟩
  · rfl
  · have := h b off q rfl
    subst this; rfl
theorem slElem_inv {v : Value} {A : Option Addr} {n c : Nat} {ps : List MemPlace} (hA : Plain A) (h : slElem v = some (slD A n c, ps)) : v = .slice A n c := by
  unfold slElem at h
  split at h
  · rename_i n' c'
    injection h with h
    injection h with h _
    rcases A with _ | ⟨b, off, q⟩
    · simp only [slD, DataW.agg.injEq, List.cons.injEq, and_true, true_and] at h
      rw [natD_inj h.1, natD_inj h.2]
    · simp [slD] at h
  · rename_i b' off' n' c'
    injection h with h
    injection h with h _
    rcases A with _ | ⟨b, off, q⟩
    · simp [slD] at h
    · have := hA b off q rfl
      subst this
      simp only [slD, DataW.agg.injEq, List.cons.injEq, and_true] at h
      rw [natD_inj h.1.1, natD_inj h.1.2, natD_inj h.2.1, natD_inj h.2.2]
  · cases h
theorem zero_sl (w : World) : (zeroValue 22).run Tryd.prog w = .ok (.slice none 0 0) w := by kernel_rfl
theorem own_plain {w : World} {B n c s : Nat} {T : TypeId} {A : Option Addr} {xs : List Value} (h : w.ownsRow B T s (.slice A n c) n xs) : Plain A := by
  intro b off q e
  rcases h.2 with ⟨e2, -⟩ | ⟨b', cap, cur, e2, -⟩
  · injection e2 with e2; rw [e2] at e; cases e
  · injection e2 with e2; rw [e2] at e; injection e with e; injection e with _ _ e; exact e.symm
theorem own_ne_grown {w w' : World} {B n s : Nat} {T : TypeId} {v : Value} {xs : List Value} (h : w.ownsRow B T s v n xs) {r : Option Nat} (hg : w.grownBy w' r) (hne : ∀ b, v.ownBlock = some b → some b ≠ r) : w'.ownsRow B T s v n xs := by
  obtain ⟨h1, h2⟩ := h
  refine ⟨h1, ?_⟩
  rcases h2 with h2 | ⟨b, cap, cur, e, hb, hgt, h3⟩
  · exact .inl h2
  · have hlt : b < w.heap.size := by
      rcases Nat.lt_or_ge b w.heap.size with h | h
      · exact h
      · rw [Array.getElem?_eq_none h] at hgt; cases hgt
    exact .inr ⟨b, cap, cur, e, hb, (hg.block b hlt (hne b (by rw [e]; rfl))).trans hgt, h3⟩

/-- The map of lists: what it says, and what its lists own. -/
def JMap (w : World) (base b n : Nat) (G : Int → List IR) (ks : List Int) : Prop :=
  ∃ (D : DataW Unit) (V : Int → Option Addr × Nat), w.ownsMap Tryd.prog 3 slElem b n D ∧ Maps.IsMap D ∧ (∀ k, Maps.has D (kI k) = decide (k ∈ ks)) ∧ (∀ k, k ∈ ks → ∀ z, D.atKey (kI k) z = slD (V k).1 (G k).length (V k).2) ∧
    (∀ k, k ∉ ks → V k = (none, 0) ∧ G k = []) ∧ (∀ k, w.ownsRow base 51 2 (.slice (V k).1 (G k).length (V k).2) (G k).length (rcells (G k))) ∧
    (∀ k k' g, k ≠ k' → (Value.slice (V k).1 (G k).length (V k).2).ownBlock = some g → (Value.slice (V k').1 (G k').length (V k').2).ownBlock ≠ some g) ∧ b < base
theorem JMap.made (w : World) : JMap (w.alloc (.map #[] 0)) (w.heap.size + 1) w.heap.size 0 (fun _ => []) [] :=
  ⟨.map [], fun _ => (none, 0), World.ownsMap_made _ _ _ _, Maps.isMap_empty, fun k => rfl, fun k h => by simp at h, fun k _ => ⟨rfl, rfl⟩, fun k => World.ownsRow_nil _ _ _ _, fun k k' g _ h => by simp [Value.ownBlock] at h, Nat.lt_succ_self _⟩
theorem JMap.grown {w w' : World} {base b n : Nat} {G : Int → List IR} {ks : List Int} (h : JMap w base b n G ks) (hb : Below w.heap.size w w') : JMap w' base b n G ks := by
  obtain ⟨D, V, h1, h2, h3, h4, h5, h6, h7, h8⟩ := h
  have hlt := h1.lt
  exact ⟨D, V, h1.kept (grown_of_below hb) (by simp), h2, h3, h4, h5, fun k => own_laterS (h6 k) hb, h7, h8⟩
theorem JMap.lt {w : World} {base b n : Nat} {G : Int → List IR} {ks : List Int} (h : JMap w base b n G ks) : b < w.heap.size ∧ b < base := by
  obtain ⟨D, V, h1, -, -, -, -, -, -, h8⟩ := h
  exact ⟨h1.lt, h8⟩
theorem JMap.atKey {D : DataW Unit} {V : Int → Option Addr × Nat} {G : Int → List IR} {ks : List Int} (h3 : ∀ k, Maps.has D (kI k) = decide (k ∈ ks)) (h4 : ∀ k, k ∈ ks → ∀ z, D.atKey (kI k) z = slD (V k).1 (G k).length (V k).2) (h5 : ∀ k, k ∉ ks → V k = (none, 0) ∧ G k = []) (k : Int) :
    D.atKey (kI k) (slD none 0 0) = slD (V k).1 (G k).length (V k).2 := by
  by_cases q : k ∈ ks
  · exact h4 k q _
  · obtain ⟨e1, e2⟩ := h5 k q
    rw [e1, e2]
    exact Maps.atKey_of_not_has (by rw [h3]; simpa using q) _
/-- What a look-up hands over, and the way back: whatever is done from here to the slice's own row and to new blocks, a store at the key restores the map. -/
theorem JMap.look {w : World} {base b n : Nat} {G : Int → List IR} {ks : List Int} (h : JMap w base b n G ks) {k : Int} (hk : -9223372036854775808 ≤ k ∧ k ≤ 9223372036854775807) :
    ∃ (A : Option Addr) (c : Nat) (D : DataW Unit), w.ownsMap Tryd.prog 3 slElem b n D ∧ (∀ w1 : World, Below w.heap.size w w1 → (Instr.lookup 149 (.map (some b)) (.int .i64 k) false).run Tryd.prog w1 = .ok (.slice A (G k).length c) w1) ∧
      w.ownsRow base 51 2 (.slice A (G k).length c) (G k).length (rcells (G k)) ∧
      ∀ (w1 : World) (A' : Option Addr) (c' : Nat) (L : List IR), w.grownBy w1 (Value.slice A (G k).length c).ownBlock → w1.ownsRow base 51 2 (.slice A' L.length c') L.length (rcells L) →
        ((Value.slice A' L.length c').ownBlock = (Value.slice A (G k).length c).ownBlock ∨ ∃ g, (Value.slice A' L.length c').ownBlock = some g ∧ w.heap.size ≤ g) →
        ∀ w2, w1.grownBy w2 (some b) → w2.ownsMap Tryd.prog 3 slElem b (n + 1) (D.put (kI k) (slD A' L.length c')) → JMap w2 base b (n + 1) (fun q => if q = k then L else G q) (k :: ks) := by
  obtain ⟨D, V, h1, h2, h3, h4, h5, h6, h7, h8⟩ := h
  refine ⟨(V k).1, (V k).2, D, h1, fun w1 hw => ?_, h6 k, fun w1 A' c' L hg ho hloc w2 hg2 hm => ?_⟩
  · have h1' : w1.ownsMap Tryd.prog 3 slElem b n D := h1.kept (grown_of_below hw) (by simp)
    obtain ⟨v, ps, hrun, hv⟩ := h1'.lookup int_law Tryd.underlying149 (zero_sl w1) (slElem_mk (fun _ _ _ e => by cases e) 0 0) (keyOf_I hk)
    rw [JMap.atKey h3 h4 h5 k] at hv
    rw [slElem_inv (own_plain (h6 k)) hv] at hrun
    exact hrun
  · have hlt := h1.lt
    refine ⟨_, fun q => if q = k then (A', c') else V q, hm, h2.put _ _, fun q => ?_, fun q hq z => ?_, fun q hq => ?_, fun q => ?_, fun q q' g hne hg' => ?_, h8⟩
    · by_cases e : q = k
      · subst e
        rw [Maps.has_put_same h2 (isKeyI _)]
        simp
      · rw [Maps.has_put_other (kI_ne e), h3]
        simp [e]
    · by_cases e : q = k
      · subst e
        simp only [if_true]
        exact Maps.atKey_put_same h2 (isKeyI _) _ _
      · simp only [if_neg e]
        rw [Maps.atKey_put_other (kI_ne e)]
        exact h4 q ((List.mem_cons.1 hq).resolve_left e) z
    · have e : q ≠ k := fun e => hq (by rw [e]; simp)
      simp only [if_neg e]
      exact h5 q fun h => hq (by simp [h])
    · by_cases e : q = k
      · subst e
        simp only [if_true]
        exact own_ne_grown ho hg2 fun b' hb' e => by
          injection e with e
          have := (ho.lt b' hb').1
          omega
      · simp only [if_neg e]
        refine own_ne_grown (own_ne_grown (h6 q) hg fun b' hb' => ?_) hg2 fun b' hb' e => ?_
        · exact fun e2 => h7 q k b' e hb' e2.symm
        · injection e with e
          have := ((h6 q).lt b' hb').1
          omega
    · have key : ∀ q, q ≠ k → ∀ g, (Value.slice (V q).1 (G q).length (V q).2).ownBlock = some g → (Value.slice A' L.length c').ownBlock ≠ some g := by
        intro q hq g hg1 hg2'
        rcases hloc with e | ⟨g', e, hge⟩
        · rw [e] at hg2'
          exact h7 q k g hq hg1 hg2'
        · rw [e] at hg2'
          injection hg2' with hg2'
          have := ((h6 q).lt g hg1).2
          omega
      by_cases e : q = k
      · subst e
        have e' : q' ≠ q := fun e => hne e.symm
        simp only [if_true] at hg'
        simp only [if_neg e']
        exact fun h => key q' e' g h hg'
      · simp only [if_neg e] at hg'
        by_cases e' : q' = k
        · subst e'
          simp only [if_true]
          exact key q e g hg'
        · simp only [if_neg e']
          exact h7 q q' g hne hg'

theorem step_mapUpdate_own {H : Type} {P : Program} {w : World} {ops : Array Oper} {o : Oper} {a : Act} {K : Act → World → Prop} {Q : Exit → Act → World → Prop} {E : Prop}
    (hg : o.guard = none) (m x v : Operand) (t : TypeId) (hop : o.op = Op.mapUpdate t m x v)
    (k e : TypeId) (KL : Maps.Keyed P k) (ht : P.underlying t = some (.map k e)) (R : Value → Option (DataW H × List MemPlace)) (b n : Nat) (D : DataW H)
    (hm : a.eval m = .map (some b)) (hown : w.ownsMap P k R b n D) (hn : n < maxLen) (key val : Value) (kl : Lit) (hx : a.eval x = key) (hv : a.eval v = val) (hkey : keyOf P k key = some kl)
    (d : DataW H) (ps : List MemPlace) (hval : R val = some (d, ps))
    (hK : ∀ w', w'.ownsMap P k R b (n + 1) (D.put kl d) → w.grownBy w' (some b) → K (a.put o.dst undef) w') :
    if Region.wanted o (yielded ops a.tmps) = true then Oper.wp P o a w K Q else E := by
  have hw : Region.wanted o (yielded ops a.tmps) = true := by simp [Region.wanted, hg]
  rw [if_pos hw]
  obtain ⟨w', hrun, r1, r2⟩ := hown.update KL ht hn hkey hval
  unfold Oper.wp
  simp [execOp, hop, hm, hx, hv, hrun, Result.andThen]
  exact hK w' r1 r2
theorem step_look_run {P : Program} {w : World} {ops : Array Oper} {o : Oper} {a : Act} {K : Act → World → Prop} {Q : Exit → Act → World → Prop} {E : Prop}
    (hg : o.guard = none) (m x : Operand) (t : TypeId) (hop : o.op = Op.lookup t m x false) (vm vx v : Value) (hm : a.eval m = vm) (hx : a.eval x = vx) (hrun : (Instr.lookup t vm vx false).run P w = .ok v w)
    (hK : K (a.put o.dst v) w) : if Region.wanted o (yielded ops a.tmps) = true then Oper.wp P o a w K Q else E := by
  have hw : Region.wanted o (yielded ops a.tmps) = true := by simp [Region.wanted, hg]
  rw [if_pos hw]
  unfold Oper.wp
  simp [execOp, hop, hm, hx, hrun, Result.andThen]
  exact hK
end Go.Proofs.YtldlmkfigjicgaaDoor
