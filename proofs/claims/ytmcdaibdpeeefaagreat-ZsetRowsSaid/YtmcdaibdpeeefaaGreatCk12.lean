/- ZsH, Zr, Frame, DotV, OpenT -/
import Derived.Test.YtmcdaibdpeeefaaGreatCk11
import Derived.Test.YtmcdaibdpeeefaaGreatRows
import Derived.Below
import Derived.ChangeSame
import Derived.Carry
import Derived.WalkKit
import Derived.ProofKit
import Derived.OpenShut
import Derived.Test.YtmcdaibdpeeefaaGreatCk08
import Derived.Laws.IdiomArrays
import Derived.Deep.Slices
import Derived.Test.YtmcdaibdpeeefaaGreatCk05
import Derived.JoinedCond
/- slices.Equal at int, EqualFunc at Item, viewref.SameSet. -/
namespace Go.Proofs.YtmcdaibdpeeefaaGreat
set_option linter.unusedVariables false
open Go.ChangeShapes Go.WideShapes Go.ChangeAt Go.RowKit

set_option maxHeartbeats 400000 in
set_option maxRecDepth 100000 in
theorem equalN_any (l m : List Int) (A B : Option Addr) (c e : Nat) (w : World) (hr : Row w w.heap.size A (icells' l)) (hs : Row w w.heap.size B (icells' m)) (hl : l.length ≤ 9223372036854775807) (hm : m.length ≤ 9223372036854775807) :
    Calls Tryz.prog 8 #[.slice A l.length c, .slice B m.length e] w fun e w' => e = .returned (.bool (decide (l = m))) ∧ Below w.heap.size w w' := by
  have HR := hid hr
  have HS := hid hs
  clear hr hs
  by_cases hlen : l.length = m.length
  · have hne : ((l.length : Int) != (m.length : Int)) = false := by simp [hlen]
    have HL := hid hlen
    clear hlen
    go_enter Tryz.func8, Tryz.ntmps8
    go_wp2
    go_loopw [13] (fun i wr => (∃ k : Nat, k ≤ l.length ∧ i = .int .i64 k ∧ ∀ j (h : j < l.length) (h' : j < m.length), j < k → l[j] = m[j]) ∧ Below w.heap.size w wr) (fun i _ => l.length - (intOf i).toNat)
    case atStart => exact ⟨⟨0, by omega, rfl, fun j _ _ h => absurd h (by omega)⟩, Below.refl _ _⟩
    case round =>
      obtain ⟨⟨k, hk, rfl, hno⟩, hbw⟩ := hrel
      by_cases hlt : k < l.length
      · have hlt' : k < m.length := by have := HL.out; omega
        obtain ⟨b, off, rfl, hb, h0⟩ := (HR.out.below hbw (Nat.le_refl _)).int' hlt
        obtain ⟨b', off', rfl, hb', h0'⟩ := (HS.out.below hbw (Nat.le_refl _)).int' hlt'
        have HN := hid hno
        have HB := hid hbw
        clear hno hbw
        generalize hd : l[k] = d at *
        generalize hd' : m[k] = d' at *
        have HD := hid hd
        have HD' := hid hd'
        clear hd hd'
        by_cases hq : d = d'
        · have q : (d != d') = false := by simp [hq]
          have HQ := hid hq
          clear hq
          go_wp2
          refine wp_region_quiet_lit (by kernel_rfl) (by kernel_rfl) ?_
          repeat (any_goals ((with_reducible refine wpQuiet_step (fun K hK => ?_)); go_simp; first | (with_reducible refine hK _ ?_; clear hK K) | ((with_reducible apply Exists.intro); (with_reducible refine ⟨fun _ => ?_, hK _ ?_⟩); (fail); clear hK K) | ((with_reducible refine (if_neg ?_).mpr (hK _ ?_)); (decide); clear hK K) | (split <;> (with_reducible refine hK _ ?_; clear hK K))))
          all_goals ((with_reducible refine wpQuiet_nil ?_); intro _ hw'; obtain ⟨nq, hw''⟩ := hw'; subst hw'')
          go_wp2
          go_roundw
          case rel =>
            refine ⟨⟨k + 1, by omega, by go_num, fun j h h' hj => ?_⟩, below_drewN HB.out _⟩
            by_cases e : j = k
            · subst e; rw [HD.out, HD'.out]; exact HQ.out
            · exact HN.out j h h' (by omega)
          case measure => simp [intOf]; omega
        · have q : (d != d') = true := by simp [hq]
          have HQ := hid hq
          clear hq
          go_wp2
          refine wp_region_quiet_lit (by kernel_rfl) (by kernel_rfl) ?_
          repeat (any_goals ((with_reducible refine wpQuiet_step (fun K hK => ?_)); go_simp; first | (with_reducible refine hK _ ?_; clear hK K) | ((with_reducible apply Exists.intro); (with_reducible refine ⟨fun _ => ?_, hK _ ?_⟩); (fail); clear hK K) | ((with_reducible refine (if_neg ?_).mpr (hK _ ?_)); (decide); clear hK K) | (split <;> (with_reducible refine hK _ ?_; clear hK K))))
          all_goals ((with_reducible refine wpQuiet_nil ?_); intro _ hw'; obtain ⟨nq, hw''⟩ := hw'; subst hw'')
          go_wp2
          go_ret
          refine ⟨ret_bool ?_, below_drewN HB.out _⟩
          symm
          rw [decide_eq_false_iff_not]
          rintro rfl
          exact HQ.out (HD.out.symm.trans HD'.out)
      · go_wp2
        go_ret
        refine ⟨ret_bool ?_, hbw⟩
        have : l = m := List.ext_getElem HL.out fun j h h' => hno j h h' (by omega)
        simp [this]
  · have hne : ((l.length : Int) != (m.length : Int)) = true := by simp; omega
    go_enter Tryz.func8, Tryz.ntmps8
    go_wp2
    go_ret
    exact ⟨ret_bool (by symm; simp; rintro rfl; exact hlen rfl), Below.refl _ _⟩


set_option maxHeartbeats 400000 in
set_option maxRecDepth 100000 in
theorem same1_any (x y : IR) (w : World) (hx : Row w w.heap.size x.A (icells' x.row)) (hxl : x.row.length ≤ 9223372036854775807) (hy : Row w w.heap.size y.A (icells' y.row)) (hyl : y.row.length ≤ 9223372036854775807) :
    Calls Tryz.prog 16 #[.agg x.cells.toArray, .agg y.cells.toArray] w fun e w' => e = .returned (.bool (decide (x.it = y.it))) ∧ Below w.heap.size w w' := by
  obtain ⟨xr, xA, xk, xn⟩ := x
  obtain ⟨yr, yA, yk, yn⟩ := y
  simp only at hx hxl hy hyl
  have HC := hid (fun w1 (hb : Below w.heap.size w w1) => equalN_any xr yr xA yA xk yk w1 (hx.step hb) (hy.step hb) hxl hyl)
  clear hx hy
  have HX : Hid (decide (IR.it ⟨xr, xA, xk, xn⟩ = IR.it ⟨yr, yA, yk, yn⟩) = (decide (xn = yn) && decide (xr = yr))) := hid (by
    simp only [IR.it, Prod.mk.injEq]
    by_cases h1 : xr = yr <;> by_cases h2 : xn = yn <;> simp [h1, h2])
  obtain ⟨R, hR⟩ : ∃ R, R = decide (IR.it ⟨xr, xA, xk, xn⟩ = IR.it ⟨yr, yA, yk, yn⟩) := ⟨_, rfl⟩
  rw [← hR] at HX ⊢
  clear hR
  obtain ⟨rb, hrb⟩ : ∃ b, b = decide (xr = yr) := ⟨_, rfl⟩
  rw [← hrb] at HC HX
  clear hrb
  simp only [IR.cells]
  by_cases h : xn = yn
  · have t1 : (xn == yn) = true := by simp [h]
    have HD : Hid (R = rb) := hid (by rw [HX.out, decide_eq_true h]; rfl)
    clear h
    go_enter Tryz.func16, Tryz.ntmps16
    go_wp2_with fail
    refine (HC.out _ (by (repeat' (first | (with_reducible exact Below.refl _ _) | (with_reducible assumption) | (with_reducible refine below_drewN ?_ _) | (with_reducible refine Below.drew ?_) | (with_reducible refine Below.alloc ?_ ?_ _) | (with_reducible refine Below.setCell ?_ ?_ _) | (refine Below.trans ?_ (Below.mono (by assumption) ?_)) | go_size)))).mono ?_
    rintro e w1 ⟨rfl, hb1⟩
    have hB1 : Below w.heap.size w w1 := (by refine Below.step' ?_ hb1; (repeat' (first | (with_reducible exact Below.refl _ _) | (with_reducible assumption) | (with_reducible refine below_drewN ?_ _) | (with_reducible refine Below.drew ?_) | (with_reducible refine Below.alloc ?_ ?_ _) | (with_reducible refine Below.setCell ?_ ?_ _) | (refine Below.trans ?_ (Below.mono (by assumption) ?_)) | go_size)))
    clear hb1
    go_wp2
    go_ret
    exact ⟨ret_bool HD.out.symm, hB1⟩
  · have t1 : (xn == yn) = false := by simp [h]
    have HD : Hid (R = false) := hid (by rw [HX.out, decide_eq_false h]; rfl)
    clear h
    go_enter Tryz.func16, Tryz.ntmps16
    go_wp2
    go_ret
    exact ⟨ret_bool HD.out.symm, by (repeat' (first | (with_reducible exact Below.refl _ _) | (with_reducible assumption) | (with_reducible refine below_drewN ?_ _) | (with_reducible refine Below.drew ?_) | (with_reducible refine Below.alloc ?_ ?_ _) | (with_reducible refine Below.setCell ?_ ?_ _) | (refine Below.trans ?_ (Below.mono (by assumption) ?_)) | go_size))⟩
theorem enters_same1 : ∀ args w, (callFunc 16 args).run Tryz.prog w = .ok (.enter 16 args) w := enters_of Tryz.func16 (by kernel_rfl) rfl

set_option maxHeartbeats 1000000 in
set_option maxRecDepth 100000 in
theorem equalFunc_any (M1 M2 : List IR) (A1 A2 : Option Addr) (c1 c2 : Nat) (w : World) (hr1 : RowI w w.heap.size A1 M1) (hl1 : M1.length ≤ 9223372036854775807) (hr2 : RowI w w.heap.size A2 M2) (hl2 : M2.length ≤ 9223372036854775807) :
    Calls Tryz.prog 15 #[.slice A1 M1.length c1, .slice A2 M2.length c2, .func (.func 16) #[] #[]] w fun e w' => e = .returned (.bool (decide (its M1 = its M2))) ∧ Below w.heap.size w w' := by
  have HR1 := hid hr1
  have HR2 := hid hr2
  have eg := enters_same1
  clear hr1 hr2
  obtain ⟨R, hR⟩ : ∃ R, R = decide (its M1 = its M2) := ⟨_, rfl⟩
  rw [← hR]
  have HRR := hid hR
  clear hR
  by_cases hlen : M1.length = M2.length
  · have hne : ((M1.length : Int) != (M2.length : Int)) = false := by simp [hlen]
    have HL := hid hlen
    clear hlen
    go_enter Tryz.func15, Tryz.ntmps15
    go_wp2_with fail
    go_loopw [17] (fun s17 wr => ∃ k : Nat, k ≤ M1.length ∧ s17 = .int .i64 k ∧ Hid (∀ j (h : j < M1.length) (h' : j < M2.length), j < k → M1[j].it = M2[j].it) ∧ Hid (Below w.heap.size w wr)) (fun s17 _ => M1.length - (intOf s17).toNat)
    case atStart => exact ⟨0, by omega, rfl, hid (fun j _ _ h => by omega), hid (Below.refl _ _)⟩
    case round =>
      obtain ⟨k, hk, rfl, HNO, HB⟩ := hrel
      by_cases hlt : k < M1.length
      · have hlt' : k < M2.length := by have := HL.out; omega
        have HS1 := hid (HR1.out.step HB.out)
        have HS2 := hid (HR2.out.step HB.out)
        obtain ⟨b, off, rfl, hb, h0, h1⟩ := HS1.out.1.it hlt
        obtain ⟨b', off', rfl, hb', h0', h1'⟩ := HS2.out.1.it hlt'
        have q1 := HS1.out.2 _ (List.getElem_mem hlt)
        have q2 := HS2.out.2 _ (List.getElem_mem hlt')
        have HXY : Hid (∀ j (h : j < M1.length) (h' : j < M2.length), j = k → (M1[j].it = M2[j].it) = (M1[k].it = M2[k].it)) := hid (fun j h h' e => by subst e; rfl)
        generalize M1[k] = x at *
        generalize M2[k] = y at *
        have HCL := hid (fun w1 (hb : Below wr.heap.size wr w1) => same1_any x y w1 (q1.1.step hb) q1.2 (q2.1.step hb) q2.2)
        clear q1 q2
        obtain ⟨bq, hbq⟩ : ∃ q, q = decide (x.it = y.it) := ⟨_, rfl⟩
        rw [← hbq] at HCL
        have HBQ := hid hbq
        clear hbq
        obtain ⟨xr, xA, xk, xn⟩ := x
        obtain ⟨yr, yA, yk, yn⟩ := y
        simp only [IR.cells] at h0 h1 h0' h1' HCL
        have hnb : (b' = wr.heap.size) = False := by simp; omega
        cases bq
        · have HD : Hid (R = false) := hid (by
            rw [HRR.out, decide_eq_false_iff_not]
            intro e
            have h3 : (its M1)[k]? = (its M2)[k]? := by rw [e]
            rw [List.getElem?_eq_getElem (by rw [its_len]; exact hlt), List.getElem?_eq_getElem (by rw [its_len]; exact hlt')] at h3
            simp only [its, List.getElem_map, Option.some.injEq] at h3
            rw [HXY.out k hlt hlt' rfl] at h3
            have := HBQ.out
            rw [decide_eq_true h3] at this
            cases this)
          go_wp2_with fail
          refine (HCL.out _ (by (repeat' (first | (with_reducible exact Below.refl _ _) | (with_reducible assumption) | (with_reducible refine below_drewN ?_ _) | (with_reducible refine Below.drew ?_) | (with_reducible refine Below.alloc ?_ ?_ _) | (with_reducible refine Below.setCell ?_ ?_ _) | (refine Below.trans ?_ (Below.mono (by assumption) ?_)) | go_size)))).mono ?_
          rintro e w1 ⟨rfl, hb1⟩
          have hB1 : Below wr.heap.size wr w1 := (by refine Below.step' ?_ hb1; (repeat' (first | (with_reducible exact Below.refl _ _) | (with_reducible assumption) | (with_reducible refine below_drewN ?_ _) | (with_reducible refine Below.drew ?_) | (with_reducible refine Below.alloc ?_ ?_ _) | (with_reducible refine Below.setCell ?_ ?_ _) | (refine Below.trans ?_ (Below.mono (by assumption) ?_)) | go_size)))
          clear hb1
          go_wp2
          go_ret
          exact ⟨ret_bool HD.out.symm, Below.step' HB.out hB1⟩
        · go_wp2_with fail
          refine (HCL.out _ (by (repeat' (first | (with_reducible exact Below.refl _ _) | (with_reducible assumption) | (with_reducible refine below_drewN ?_ _) | (with_reducible refine Below.drew ?_) | (with_reducible refine Below.alloc ?_ ?_ _) | (with_reducible refine Below.setCell ?_ ?_ _) | (refine Below.trans ?_ (Below.mono (by assumption) ?_)) | go_size)))).mono ?_
          rintro e w1 ⟨rfl, hb1⟩
          have hB1 : Below wr.heap.size wr w1 := (by refine Below.step' ?_ hb1; (repeat' (first | (with_reducible exact Below.refl _ _) | (with_reducible assumption) | (with_reducible refine below_drewN ?_ _) | (with_reducible refine Below.drew ?_) | (with_reducible refine Below.alloc ?_ ?_ _) | (with_reducible refine Below.setCell ?_ ?_ _) | (refine Below.trans ?_ (Below.mono (by assumption) ?_)) | go_size)))
          have HB1 := hid hB1
          clear hb1 hB1
          go_wp2
          go_roundw
          case rel =>
            refine ⟨k + 1, by omega, by go_num, hid (fun j h h' hj => ?_), hid (Below.step' HB.out HB1.out)⟩
            by_cases e : j = k
            · rw [HXY.out j h h' e]; exact of_decide_eq_true HBQ.out.symm
            · exact HNO.out j h h' (by omega)
          case measure => simp [intOf]; omega
      · have HD : Hid (R = true) := hid (by
          rw [HRR.out, decide_eq_true_eq]
          refine List.ext_getElem (by rw [its_len, its_len]; exact HL.out) fun j h h' => ?_
          simp only [its, List.getElem_map]
          rw [its_len] at h h'
          exact HNO.out j h h' (by omega))
        go_wp2
        go_ret
        exact ⟨ret_bool HD.out.symm, HB.out⟩
  · have hne : ((M1.length : Int) != (M2.length : Int)) = true := by simp; omega
    have HD : Hid (R = false) := hid (by
      rw [HRR.out, decide_eq_false_iff_not]
      intro e
      exact hlen (by rw [← its_len M1, ← its_len M2, e]))
    go_enter Tryz.func15, Tryz.ntmps15
    go_wp2
    go_ret
    exact ⟨ret_bool HD.out.symm, Below.refl _ _⟩

set_option maxRecDepth 100000 in
theorem sameSet_any (M1 M2 : List IR) (A1 A2 : Option Addr) (c1 c2 : Nat) (w : World) (hr1 : RowI w w.heap.size A1 M1) (hl1 : M1.length ≤ 9223372036854775807) (hr2 : RowI w w.heap.size A2 M2) (hl2 : M2.length ≤ 9223372036854775807) :
    Calls Tryz.prog 6 #[.slice A1 M1.length c1, .slice A2 M2.length c2] w fun e w' => e = .returned (.bool (decide (its M1 = its M2))) ∧ Below w.heap.size w w' := by
  have HC := hid (equalFunc_any M1 M2 A1 A2 c1 c2 w hr1 hl1 hr2 hl2)
  clear hr1 hr2
  obtain ⟨R, hR⟩ : ∃ R, R = decide (its M1 = its M2) := ⟨_, rfl⟩
  rw [← hR] at HC ⊢
  clear hR
  go_enter Tryz.func6, Tryz.ntmps6
  go_wp2_with fail
  refine HC.out.mono ?_
  rintro e w1 ⟨rfl, hb1⟩
  go_wp2
  go_ret
  exact ⟨rfl, hb1⟩

end Go.Proofs.YtmcdaibdpeeefaaGreat
/- viewkeep.ZsetRows: the walk. -/
namespace Go.Proofs.YtmcdaibdpeeefaaGreat
set_option linter.unusedVariables false
open Go.ChangeShapes Go.WideShapes Go.ChangeAt Go.RowKit

theorem of_item (V : Int → Int → List Int) (K : List Int) (M : List IR) (h : its M = ofL V K) : M.length = K.length ∧ ∀ i, (hi : i < M.length) → (hk : i < K.length) → M[i].row.length = 4 ∧ M[i].n = 1 ∧ M[i].row[0]? = some K[i] := by
  have hl : M.length = K.length := by rw [← its_len, h, ofL, List.length_map]
  refine ⟨hl, fun i hi hk => ?_⟩
  have h1 : (its M)[i]? = some (ofRowN V K[i] 3, 1) := by
    rw [h, ofL, List.getElem?_map, List.getElem?_eq_getElem hk]; rfl
  rw [List.getElem?_eq_getElem (by rw [its_len]; exact hi)] at h1
  simp only [its, List.getElem_map, IR.it, Option.some.injEq, Prod.mk.injEq] at h1
  rw [h1.1, h1.2]
  exact ⟨ofRowN_len _ _ _, rfl, rfl⟩

set_option maxHeartbeats 400000 in
set_option maxRecDepth 100000 in
theorem zrows_any (t : Tab) (A : Option Addr) (k : Nat) (B : Option Addr) (m : Nat) (w : World) (ra : Row w w.heap.size A (dcells t.c.cloud)) (la : t.c.cloud.length ≤ 9223372036854775807)
    (rb : Row w w.heap.size B (tcells t.cells)) (lb : t.cells.length ≤ 9223372036854775807) :
    Calls Tryz.prog 3 #[tval t A k B m] w fun e w' => e = .returned (.bool true) ∧ Below w.heap.size w w' := by
  have HED := hid (fun w1 A k0 (hr : Row w1 w1.heap.size A (ecells [⟨1, 0, 3, 1, 7⟩])) (hk : 1 ≤ k0) => edited_any [⟨1, 0, 3, 1, 7⟩] A k0 w1 hr (by simp) hk)
  have HOP := hid (fun A k B m w1 (ra : Row w1 w1.heap.size A (dcells puP.c.cloud)) (rb : Row w1 w1.heap.size B (tcells puP.cells)) => of_any puP A k B m w1 ra (by simp [puP]) rb (by simp [puP]))
  have HOF := hid (fun w1 (hb : Below w.heap.size w w1) => of_any t A k B m w1 (ra.step hb) la (rb.step hb) lb)
  have HKE := hid (fun (h4 : t.cells.length ≤ 400) w1 (hb : Below w.heap.size w w1) => keys_any t A k B m w1 (rb.step hb) (by omega))
  have HT4 := hid (@tabI_cells t)
  have HX1 := hid (fun h : tabI t ≠ 0 => show ofX t = [] by unfold ofX; rw [if_neg h])
  have HX0 := hid (fun h : tabI t = 0 => show ofX t = ofL (valsL t) (keysL t) by unfold ofX; rw [if_pos h])
  have HSET := hid (@of_set t)
  have HKL := hid (keysL_len t)
  simp only [edit_p, of_p, puP_right] at HED HOP
  simp only [List.length_cons, List.length_nil, Nat.zero_add] at HED
  have hb1 := fun w => build_ed 1 3 1 7 w
  clear ra rb
  obtain ⟨E, hE⟩ : ∃ E, E = tabI t := ⟨_, rfl⟩
  obtain ⟨X, hX⟩ : ∃ X, X = ofX t := ⟨_, rfl⟩
  obtain ⟨V, hV⟩ : ∃ V, V = valsL t := ⟨_, rfl⟩
  obtain ⟨K, hK⟩ : ∃ K, K = keysL t := ⟨_, rfl⟩
  rw [← hE, ← hX] at HOF
  rw [← hE] at HT4
  rw [← hX, ← hE] at HX1 HSET
  rw [← hX, ← hE, ← hV, ← hK] at HX0
  rw [← hK] at HKE HKL
  clear hE hX hV hK
  obtain ⟨⟨c0, c1, c2, c3, cl⟩, l⟩ := t
  obtain ⟨i1, hi0, hz0, hz1, hz2⟩ := info_parts info_int
  simp only [tval] at HOF HKE ⊢
  simp only at la lb HT4 HKL
  obtain ⟨W, hW⟩ : ∃ W : World, W = w.alloc (.cells #[.int .i64 c0, .int .i64 c1, .int .i64 c2, .int .i64 c3, .slice A cl.length k, .slice B l.length m] 28) := ⟨_, rfl⟩
  have HBW := hid (show Below w.heap.size w W by rw [hW]; (repeat' (first | (with_reducible exact Below.refl _ _) | (with_reducible assumption) | (with_reducible refine below_drewN ?_ _) | (with_reducible refine Below.drew ?_) | (with_reducible refine Below.alloc ?_ ?_ _) | (with_reducible refine Below.setCell ?_ ?_ _) | (refine Below.trans ?_ (Below.mono (by assumption) ?_)) | go_size)))
  have HXA := hid (show Blk W w.heap.size #[.int .i64 c0, .int .i64 c1, .int .i64 c2, .int .i64 c3, .slice A cl.length k, .slice B l.length m] 28 by rw [hW]; exact Blk.new _ _ _)
  go_enter Tryz.func3, Tryz.ntmps3
  go_wp2_with fail
  -- STOP-a
  rw [← hW]
  have HWS := hid (show W.heap.size = w.heap.size + 1 by rw [hW]; simp)
  clear hW
  refine (HED.out _ _ _ (by exact Row.new' W _ _ HWS.out rfl (by have := HWS.out; simp; omega)) (Nat.le_refl _)).mono ?_
  rintro e w1 ⟨A1, k1, B1, m1, rfl, hr1, hs1, hbq1, -, -⟩
  have hB1 : Below W.heap.size W w1 := (by refine Below.step' ?_ hbq1; (repeat' (first | (with_reducible exact Below.refl _ _) | (with_reducible assumption) | (with_reducible refine below_drewN ?_ _) | (with_reducible refine Below.drew ?_) | (with_reducible refine Below.alloc ?_ ?_ _) | (with_reducible refine Below.setCell ?_ ?_ _) | (refine Below.trans ?_ (Below.mono (by assumption) ?_)) | go_size)))
  replace HXA := hid (HXA.out.step hB1)
  replace HBW := hid (Below.step' HBW.out hB1)
  have HR1 := hid hr1
  have HS1 := hid hs1
  clear hr1 hs1 hbq1 hB1
  go_wp2_with fail
  -- STOP-b
  refine (HOP.out _ _ _ _ _ HR1.out HS1.out).mono ?_
  rintro e w2 ⟨A2, k2, M2, rfl, hi2, ho2, hn2, hb2⟩
  replace HXA := hid (HXA.out.step hb2)
  replace HBW := hid (Below.step' HBW.out hb2)
  have hl2 : M2.length = 1 := by rw [← its_len, hi2]; rfl
  have HG2 : Hid (RowI w2 w2.heap.size A2 M2) := hid ⟨Row.of_ownS ho2, hn2.rows⟩
  have HI2 := hid hi2
  have HL2 := hid hl2
  clear ho2 hn2 hb2 hi2 hl2 HOP HED
  go_wp2_with fail
  -- STOP-c
  have HSS : Hid (∀ w3 A3 A4, Below w2.heap.size w2 w3 → Row w3 w3.heap.size A3 [.slice A4 4 4, .int .i64 1] → Row w3 w3.heap.size A4 (icells' [3, 0, 7, 0]) → Calls Tryz.prog 6 #[.slice A2 M2.length k2, .slice A3 1 1] w3 fun e w' => e = .returned (.bool true) ∧ Below w3.heap.size w3 w') := hid (fun w3 A3 A4 hb h3 h4 => by
    have h := sameSet_any M2 [⟨[3, 0, 7, 0], A4, 4, 1⟩] A2 A3 k2 1 w3 (HG2.out.step hb) (by rw [HL2.out]; decide) ⟨by simpa [rcells, IR.cells] using h3, fun x hx => by
      simp only [List.mem_cons, List.not_mem_nil, or_false] at hx
      subst hx
      exact ⟨h4, by simp⟩⟩ (by simp)
    rw [HI2.out, show its [⟨[3, 0, 7, 0], A4, 4, 1⟩] = [([3, 0, 7, 0], 1)] from rfl, decide_eq_true rfl] at h
    exact h)
  refine (HSS.out _ (some ⟨w2.heap.size + 1, 0, none⟩) (some ⟨w2.heap.size, 0, none⟩) (by exact ((Below.refl _ _).alloc (Nat.le_refl _) _).alloc (by simp) _) (by exact Row.new' (w2.alloc _) _ _ (by simp) rfl (by simp)) (by exact (Row.new' w2 _ _ rfl rfl (by simp)).alloc _)).mono ?_
  rintro e w3 ⟨rfl, hb3⟩
  have hB3 : Below w2.heap.size w2 w3 := (by refine Below.step' ?_ hb3; (repeat' (first | (with_reducible exact Below.refl _ _) | (with_reducible assumption) | (with_reducible refine below_drewN ?_ _) | (with_reducible refine Below.drew ?_) | (with_reducible refine Below.alloc ?_ ?_ _) | (with_reducible refine Below.setCell ?_ ?_ _) | (refine Below.trans ?_ (Below.mono (by assumption) ?_)) | go_size)))
  replace HXA := hid (HXA.out.step hB3)
  replace HBW := hid (Below.step' HBW.out hB3)
  clear hb3 hB3 HSS HG2 HI2 HL2 HR1 HS1
  obtain ⟨cHXA, fHXA, sHXA, nHXA⟩ := HXA.out.all
  try simp only [cbox] at cHXA
  go_wp2_with fail
  -- STOP-d
  refine (HOF.out _ HBW.out).mono ?_
  rintro e w4 ⟨A4, k4, M, rfl, hi4, ho4, hn4, hb4⟩
  clear cHXA fHXA sHXA nHXA
  replace HXA := hid (HXA.out.step hb4)
  replace HBW := hid (Below.step' HBW.out hb4)
  have HGM : Hid (RowI w4 w4.heap.size A4 M) := hid ⟨Row.of_ownS ho4, hn4.rows⟩
  have HIM := hid hi4
  clear ho4 hn4 hb4 hi4 HOF
  by_cases q1 : E = 0
  rotate_left
  · have t1 : (E != 0) = true := by simpa using q1
    have hM0 : M.length = 0 := by rw [← its_len, HIM.out, HX1.out q1]; rfl
    have t2 : ((M.length : Int) == 0) = true := by rw [hM0]; rfl
    clear q1
    go_wp2
    go_ret
    exact ⟨rfl, HBW.out⟩
  subst q1
  have hl400 := HT4.out rfl
  replace HKL := hid (Nat.le_trans HKL.out hl400)
  replace HX0 := hid (HX0.out rfl)
  replace HSET := hid (HSET.out rfl)
  replace HKE := hid (HKE.out hl400)
  obtain ⟨hML, hMI⟩ := of_item V K M (by rw [HIM.out, HX0.out])
  have hKl := HKL.out
  have HMI := hid hMI
  clear hMI HX1 HT4
  go_wp2_with fail
  -- STOP-e
  go_loopw [7, 39] (fun s7 s39 wr => ∃ i : Nat, i ≤ M.length ∧ s39 = .int .i64 i ∧ Hid (wr.ownsRow w4.heap.size 3 1 s7 (K.take i).length (icells (K.take i))) ∧ Hid (Below w4.heap.size w4 wr)) (fun _ s39 _ => M.length - (intOf s39).toNat)
  case atStart => exact ⟨0, by omega, rfl, hid (by simpa using World.ownsRow_nil _ _ _ _), hid (Below.refl _ _)⟩
  case round =>
    obtain ⟨i, hi, rfl, HOWN, HB⟩ := hrel
    obtain ⟨A7, c7, rfl⟩ := own_formS HOWN.out
    have hs4 := HB.out.size
    by_cases hlt : i < M.length
    · have hkt : i < K.length := by omega
      obtain ⟨b, off, rfl, hb, e0, e1⟩ := (HGM.out.1.step HB.out).it hlt
      obtain ⟨m1, m2, m3⟩ := HMI.out i hlt hkt
      have hro := (HGM.out.2.step HB.out M[i] (List.getElem_mem hlt)).1
      have HST := hid (show K.take (i + 1) = K.take i ++ [K[i]] by rw [List.take_succ_eq_append_getElem hkt])
      have hkl : (K.take i).length = i := by rw [List.length_take]; omega
      generalize K[i] = key at *
      generalize M[i] = x at *
      obtain ⟨xr, xA, xk, xn⟩ := x
      simp only at m1 m2 m3 hro e0 e1
      have hx0 : xr[0]'(by omega) = key := by
        rw [List.getElem?_eq_getElem (by omega)] at m3
        exact Option.some.inj m3
      obtain ⟨b2, o2, rfl, hb2, hv2⟩ := hro.int' (k := 0) (by omega)
      rw [hx0] at hv2
      simp only [Nat.add_zero] at hv2
      rw [m1] at e0
      subst m2
      have HKT := hid hkl
      have hne : (b = wr.heap.size) = False := by simp; omega
      have hne2 : (b2 = wr.heap.size) = False := by simp; omega
      clear hro m1 m3 hx0
      obtain ⟨J, hJ⟩ : ∃ J, J = K.take i := ⟨_, rfl⟩
      rw [← hJ] at HOWN HST HKT ⊢
      clear hJ hkl
      have hJl := HKT.out
      go_wp2_with (at_builtin; refine wpList_append_own _ rfl _ _ 38 rfl w4.heap.size 3 i1 _ 1 8 Tryz.underlying38 hi0 hz0 hz1 hz2 rfl (by decide) _ _ _ rfl ((HOWN.out.alloc _).alloc _) ⟨wr.heap.size + 1, 0, none⟩ 1 1 (icells [key]) rfl rfl (newsI _ key _ _ (by simp)) (icells_one _) ?_ ?_ ?_ ?_; rotate_right; intro v6 w6 hown6 hg6 _; rotate_left; (simp only [maxLen]; omega); (omega); (simp; omega))
      -- STOP-f
      go_roundw
      case rel =>
        refine ⟨i + 1, by omega, by go_num, hid ?_, hid (Below.grown (Below.alloc (Below.alloc HB.out (by omega) _) (by simp; omega) _) hg6 (by simp; omega) (fun g e => (HOWN.out.lt g e).1))⟩
        rw [HST.out, icells_snoc]
        simpa using hown6
      case measure => simp [intOf]; omega
    · have hik : i = M.length := by omega
      have hkT : K.take i = K := List.take_of_length_le (by omega)
      rw [hkT] at HOWN
      subst hik
      rw [hkT]
      have HEQ := hid (fun (v : Value) (B2 : Option Addr) (e : Nat) (w1 : World) (h : Row w1 w1.heap.size A7 (icells K)) (h2 : Row w1 w1.heap.size B2 (icells K)) => equalI_any K K A7 B2 c7 e w1 h h2 (by omega) (by omega))
      simp only [decide_true] at HEQ
      have HCK := hid (zcheck_any M A4 k4 wr (HGM.out.step HB.out) (by omega))
      rw [HIM.out, HSET.out, hML] at HCK
      clear hkT HMI HX0 HSET HIM
      replace HBW := hid (Below.step' HBW.out HB.out)
      replace HXA := hid (HXA.out.step HB.out)
      have HRK := hid (Row.of_ownS HOWN.out)
      clear HB HOWN
      go_wp2_with fail
      -- STOP-g
      refine HCK.out.mono ?_
      rintro e w5 ⟨rfl, hb5⟩
      replace HXA := hid (HXA.out.step hb5)
      replace HRK := hid (HRK.out.step hb5)
      replace HBW := hid (Below.step' HBW.out hb5)
      clear hb5
      obtain ⟨cHXA, fHXA, sHXA, nHXA⟩ := HXA.out.all
      try simp only [cbox] at cHXA
      go_wp2_with fail
      -- STOP-h
      refine (HKE.out _ HBW.out).mono ?_
      rintro e w6 ⟨v6, rfl, hown6, hb6⟩
      obtain ⟨A6, k6, rfl⟩ := own_formS hown6
      clear cHXA fHXA sHXA nHXA
      replace HRK := hid (HRK.out.step hb6)
      replace HBW := hid (Below.step' HBW.out hb6)
      have HR6 := hid (Row.of_ownS hown6)
      clear hb6 hown6
      go_wp2_with fail
      -- STOP-i
      refine (HEQ.out (.bool true) _ _ _ HRK.out HR6.out).mono ?_
      rintro e w7 ⟨rfl, hb7⟩
      replace HBW := hid (Below.step' HBW.out hb7)
      go_wp2
      go_ret
      exact ⟨rfl, HBW.out⟩
end Go.Proofs.YtmcdaibdpeeefaaGreat
/- The frame that the laws of this seat share: a call that answers true and turns nothing below the heap's size fits the row. No law in sight. -/
namespace Go.Proofs.YtmcdaibdpeeefaaGreat
set_option linter.unusedVariables false
open Go.ChangeShapes Go.WideShapes Go.ChangeAt Go.RowKit

section
variable {H : Type} {enc : TypeId × Value → H} {P : Program}

theorem trodAll_stays (hl : laidOutB P = true) {W W' : World} (hb : Below W.heap.size W W') {sp : Nat → Bool} :
    ∀ {ts : List TypeId} {vs : List Value} {ds : List (DataW H)} {ps : List MemPlace}, (∀ t ∈ ts, P.readableRec t = true ∧ t < P.types.size) →
      DataW.TrodAll enc P W 0 (fun _ => true) true ts vs ds ps → (∀ x ∈ ps, x.block < W.heap.size) → (∀ x ∈ ps, sp x.block = true) → DataW.TrodAll enc P W' 0 sp true ts vs ds ps
  | [], _, _, _, _, h, _, _ => by
    obtain ⟨rfl, rfl, rfl⟩ := trodAll_nil h
    exact trodAll_mk0
  | t :: ts, _, _, _, ht, h, hlt, hs => by
    obtain ⟨v, vs, d, ds, p, q, rfl, rfl, rfl, h1, h2⟩ := trodAll_cons h
    have ht0 := ht t (by simp)
    exact ⟨p, q, WideElems.Trod_stays hl ht0.1 ht0.2 h1 (fun x hx => hb.same (hlt x (by simp [hx]))) (fun x hx => hs x (by simp [hx])),
      trodAll_stays hl hb (fun u hu => ht u (by simp [hu])) h2 (fun x hx => hlt x (by simp [hx])) (fun x hx => hs x (by simp [hx])), rfl⟩

theorem trodAll_len {W : World} {sp : Nat → Bool} {hd : Bool} {b : Nat} : ∀ {ts : List TypeId} {vs : List Value} {ds : List (DataW H)} {ps : List MemPlace}, DataW.TrodAll enc P W b sp hd ts vs ds ps → ds.length = ts.length
  | [], _, _, _, h => by
    obtain ⟨rfl, rfl, rfl⟩ := trodAll_nil h
    rfl
  | t :: ts, _, _, _, h => by
    obtain ⟨v, vs, d, ds, p, q, rfl, rfl, rfl, h1, h2⟩ := trodAll_cons h
    simp [trodAll_len h2]

theorem law_post {f : Func} {s : ChangeSpec} {W W' : World} {args : Array Value} {ds gs : List (DataW H)} {before : List MemPlace} {tb : TypeId} (hl : laidOutB P = true)
    (hts : ∀ t ∈ f.params.toList, P.readableRec t = true ∧ t < P.types.size) (hres : f.resultTypes = #[tb]) (hbool : P.underlying tb = some .bool) (hvars : s.vars = [])
    (hspec : ∀ es : List (DataW H), es.length = f.params.toList.length → s.fn H es = { results := [.lit (.bool true)], args := es })
    (hW : DataW.Whole enc P f.params.toList s.vars false W args.toList ds gs before) (hb : Below W.heap.size W W') : s.post enc P f false true false false W args (.bool true) W' := by
  have hlt := hW.lt
  have hold : ∀ x ∈ before, (fun b => decide (b < W.heap.size)) x.block = true := fun x hx => by simpa using hlt x hx
  have hW0 := hW
  obtain ⟨p, q, hA, hV, rfl, hz, hn⟩ := hW
  rw [hvars] at hV
  obtain ⟨rfl, rfl⟩ := trodVars_none hV
  have hsp := hspec ds (trodAll_len hA)
  have hargs : ∀ sp : Nat → Bool, (∀ x ∈ p, sp x.block = true) → DataW.TrodAll enc P W' 0 sp true f.params.toList args.toList ds p := fun sp h =>
    trodAll_stays hl hb hts hA (fun x hx => hlt x (by simp [hx])) h
  have hr : ∀ (b : Nat) (sp : Nat → Bool) (hd : Bool), DataW.TrodAll enc P W' b sp hd f.resultTypes.toList ((Value.bool true).resultList f.resultTypes.size) [.lit (.bool true)] [] := by
    intro b sp hd
    rw [hres]
    exact trodAll_cons_mk (shut_bool hbool _) trodAll_mk0
  refine ⟨ds, [], p ++ [], [], p, [], hW0, ?_, ?_, ?_, World.keptBut_mono (fun x hx => ⟨hx, .inr (by simpa using hx)⟩) (hb.frame (· ∈ p ++ [])), fun _ => ?_⟩
  · rw [List.append_nil, hsp]; exact hr _ _ _
  · rw [List.append_nil, hsp]; exact hargs _ (fun x hx => by simpa using hlt x (by simp [hx]))
  · rw [List.append_nil, hsp, hvars]; rfl
  · refine ⟨ok_one hres rfl (okWide_bool_mk hbool _), [.lit (.bool true)] ++ ds, [], p ++ [], ⟨p, [], ?_, by rw [hvars]; rfl, rfl, ?_, fun h => by cases h⟩, fun x hx _ => by simpa using hx⟩
    · have h := trodAll_append (hargs (fun _ => true) (fun _ _ => rfl)) (hr 0 (fun _ => true) true)
      simpa using h
    · intro b off hx
      rw [hb.frozen (hlt _ hx)]
      exact hz b off hx
end

/-- The row's step of a law: its walk, from the arguments as they are read, is all that is left. -/
theorem law_lifted {C : Checked} {os : Os} {f : FuncId} {fn : Func} {s : ChangeSpec} {conds : List PathCond} {H : Type} {enc : TypeId × Value → H} {tb : TypeId}
    (own : ownKnob C.prog.godebug = none) (started : os.Started) (noInit : C.prog.inits.idxOf? f = none) (hfn : C.prog.funcs[f]? = some fn)
    (witness : ∃ (w : World) (tape : Tape) (i : Input), w.os = os ∧ (w.forCall tape i).Shaped C.prog ∧ i.vars = [] ∧ Input.okWide C.prog (w.forCall tape i) .any w.heap.size f i ∧
      s.pre6 enc C.prog fn conds false (w.forCall tape i).memory i.args ∧ ({} : Assume).holds C.prog (lone (Frame.enter C.prog f i.args .normal) [] (w.forCall tape i)))
    (hl : laidOutB C.prog = true) (hts : ∀ t ∈ fn.params.toList, C.prog.readableRec t = true ∧ t < C.prog.types.size) (hres : fn.resultTypes = #[tb]) (hbool : C.prog.underlying tb = some .bool) (hvars : s.vars = [])
    (hspec : ∀ es : List (DataW H), es.length = fn.params.toList.length → s.fn H es = { results := [.lit (.bool true)], args := es })
    (walk : ∀ (W : World) (base : Nat) (args : Array Value) (ds : List (DataW H)) (ps : List MemPlace),
      (∀ (j : Nat) t v, fn.params[j]? = some t → args[j]? = some v → Value.okWide C.prog W .any base t v) → DataW.TrodAll enc C.prog W 0 (fun _ => true) true fn.params.toList args.toList ds ps →
      Calls C.prog f args W fun e W' => e = .returned (.bool true) ∧ Below W.heap.size W W') :
    ReturnsInHanded {} C os f .any (s.pre6 enc C.prog fn conds false) (s.post enc C.prog fn false true false false) := by
  refine returnsInHanded_of_change (C := C) own started noInit hfn witness ?_
  intro W base args ds gs before hval hW hcnd _
  have hW' := hW
  obtain ⟨p, q, hA, _⟩ := hW
  refine (walk W base args ds p hval hA).mono fun e W' ⟨he, hb⟩ => ?_
  exact ⟨_, he, law_post hl hts hres hbool hvars hspec hW' hb⟩
end Go.Proofs.YtmcdaibdpeeefaaGreat
/- The frame of DotSays: begun. First lemma: an argument []Dot read by DataW.trod is a Row. -/
namespace Go.Proofs.YtmcdaibdpeeefaaGreat
set_option linter.unusedVariables false
open Go.ChangeShapes Go.WideShapes Go.ChangeAt Go.RowKit Go.Deep

/-- A row from its cells, one dot at a time. -/
theorem Row.of_cells {w : World} {b off n : Nat} (hb : b < w.heap.size) (h : ∀ i, i < n → ∃ x y : Int, w.cell? ⟨b, off + i * 2, none⟩ = some (.int .i64 x) ∧ w.cell? ⟨b, off + i * 2 + 1, none⟩ = some (.int .i64 y)) :
    ∃ l : List (Int × Int), l.length = n ∧ Row w w.heap.size (some ⟨b, off, none⟩) (dcells l) := by
  have h' : ∀ m, m ≤ n → ∃ l : List (Int × Int), l.length = m ∧ ∀ j u, (dcells l)[j]? = some u → w.cell? ⟨b, off + j, none⟩ = some u := by
    intro m
    induction m with
    | zero => exact fun _ => ⟨[], rfl, fun j u hu => by simp [dcells] at hu⟩
    | succ m ih =>
      intro hm
      obtain ⟨l, hl, hc⟩ := ih (by omega)
      obtain ⟨x, y, hx, hy⟩ := h m (by omega)
      refine ⟨l ++ [(x, y)], by simp [hl], fun j u hu => ?_⟩
      have e : dcells (l ++ [(x, y)]) = dcells l ++ [.int .i64 x, .int .i64 y] := by simp [dcells]
      rw [e] at hu
      have hlen := dcells_len l
      by_cases hj : j < (dcells l).length
      · rw [List.getElem?_append_left hj] at hu
        exact hc j u hu
      · rw [List.getElem?_append_right (by omega)] at hu
        rcases (by omega : j = m * 2 ∨ j = m * 2 + 1 ∨ m * 2 + 2 ≤ j) with h1 | h1 | h1
        · have h2 : j - (dcells l).length = 0 := by omega
          rw [h2] at hu
          injection hu with hu
          rw [← hu, h1]; exact hx
        · have h2 : j - (dcells l).length = 1 := by omega
          rw [h2] at hu
          injection hu with hu
          rw [← hu, h1]; exact hy
        · rw [hlen, hl, List.getElem?_eq_none (by simp; omega)] at hu; cases hu
  obtain ⟨l, hl, hc⟩ := h' n (Nat.le_refl _)
  exact ⟨l, hl, .inr ⟨b, off, rfl, hb, hc⟩⟩

set_option maxRecDepth 100000 in
/-- A dot in two cells, as the claim reads it. -/
theorem open_dot {H : Type} {enc : TypeId × Value → H} {w : World} {base n : Nat} {spare : Nat → Bool} {held : Bool} {cs : List Value} {x : DataW H × List MemPlace}
    (h : DataW.trod enc Tryz.prog w base spare held n 57 cs = some x) : ∃ a b : Int, cs = [.int .i64 a, .int .i64 b] := by
  obtain ⟨xs, n', _, hx, hlen, hxl, hf⟩ := DataW.trod_struct Tryz.underlying57 h
  have c2 : Tryz.prog.cellsOf 57 = 2 := by kernel_rfl
  have c1 : Tryz.prog.cellsOf 3 = 1 := by kernel_rfl
  rw [c2] at hlen
  match cs, hlen with
  | [u, v], _ =>
    match xs, hxl with
    | [y0, y1], _ =>
      have h0 := hf 0 _ rfl
      have h1 := hf 1 _ rfl
      simp only [List.getElem_toArray, List.getElem_cons_zero, List.getElem_cons_succ, List.getElem?_cons_zero, List.getElem?_cons_succ] at h0 h1
      simp only [c1, List.drop_zero, List.take_succ_cons, List.take_zero, List.drop_succ_cons] at h0 h1
      obtain ⟨a, ea, _⟩ := DataW.trod_int Tryz.underlying3 h0
      obtain ⟨b, eb, _⟩ := DataW.trod_int Tryz.underlying3 h1
      injection ea with ea
      injection eb with eb
      subst ea eb
      exact ⟨a, b, rfl⟩

set_option maxRecDepth 100000 in
/-- The cells of a list of dots, as the claim reads it, are a row; its length is in an int's reach. -/
theorem open_dots {H : Type} {enc : TypeId × Value → H} {w : World} {base n : Nat} {spare : Nat → Bool} {held : Bool} {cs : List Value} {x : DataW H × List MemPlace}
    (h : DataW.trod enc Tryz.prog w base spare held n 23 cs = some x) : ∃ (A : Option Addr) (k : Nat) (l : List (Int × Int)), cs = [.slice A l.length k] ∧ Row w w.heap.size A (dcells l) ∧ l.length ≤ 9223372036854775807 := by
  have c2 : Tryz.prog.cellsOf 57 = 2 := by kernel_rfl
  rcases open_slice Tryz.underlying23 h with ⟨rfl, _⟩ | ⟨a, len, cap, m, n', D, Pl, rfl, hb, hl, hm, hmm, hx, hi⟩
  · exact ⟨none, 0, [], rfl, Row.nil, by simp⟩
  · by_cases h0 : len = 0
    · subst h0
      exact ⟨some a, cap, [], rfl, Row.nil, by simp⟩
    · have hlm : len ≤ m := by rw [hmm]; split <;> omega
      have hd : ∀ i, i < len → ∃ x y : Int, w.cell? (a.add (i * 2)) = some (.int .i64 x) ∧ w.cell? ((a.add (i * 2)).add 1) = some (.int .i64 y) := by
        intro i hil
        obtain ⟨cs', hc, ht⟩ := hi i (by omega)
        obtain ⟨x, y, rfl⟩ := open_dot ht
        rw [c2] at hc
        obtain ⟨_, _, hat⟩ := World.cells?_some hc
        exact ⟨x, y, by simpa [Addr.add] using hat 0 (by omega), hat 1 (by omega)⟩
      obtain ⟨b, off, spot⟩ := a
      obtain ⟨x0, _, hx0, _⟩ := hd 0 (by omega)
      have hspot : spot = none := by simpa [Addr.add] using World.cell?_spot hx0
      subst hspot
      have hblk : b < w.heap.size := World.block_lt_of_cell? _ _ (by simpa [Addr.add] using hx0)
      obtain ⟨l, hll, hr⟩ := Row.of_cells (w := w) (b := b) (off := off) (n := len) hblk (fun i hil => by
        obtain ⟨x, y, hx, hy⟩ := hd i hil
        rw [add_none] at hx
        rw [add_none, add_none] at hy
        exact ⟨x, y, hx, hy⟩)
      subst hll
      refine ⟨some ⟨b, off, none⟩, cap, l, rfl, hr, ?_⟩
      simp only [maxLen] at hm
      omega

set_option maxRecDepth 100000 in
/-- A context in five cells, as the claim reads it. -/
theorem open_ctx_cells {H : Type} {enc : TypeId × Value → H} {w : World} {base n : Nat} {spare : Nat → Bool} {held : Bool} {cs : List Value} {x : DataW H × List MemPlace}
    (h : DataW.trod enc Tryz.prog w base spare held n 25 cs = some x) :
    ∃ (c : Ctx) (A : Option Addr) (k : Nat), cs = [.int .i64 c.c0, .int .i64 c.c1, .int .i64 c.c2, .int .i64 c.c3, .slice A c.cloud.length k] ∧ Row w w.heap.size A (dcells c.cloud) ∧ c.cloud.length ≤ 9223372036854775807 := by
  obtain ⟨xs, n', _, hx, hlen, hxl, hf⟩ := DataW.trod_struct Tryz.underlying25 h
  have c5 : Tryz.prog.cellsOf 25 = 5 := by kernel_rfl
  have c4 : Tryz.prog.cellsOf 22 = 4 := by kernel_rfl
  have c1 : Tryz.prog.cellsOf 23 = 1 := by kernel_rfl
  have ci : Tryz.prog.cellsOf 3 = 1 := by kernel_rfl
  rw [c5] at hlen
  match cs, hlen with
  | [u0, u1, u2, u3, u4], _ =>
    match xs, hxl with
    | [y0, y1], _ =>
      have h0 := hf 0 _ rfl
      have h1 := hf 1 _ rfl
      simp only [List.getElem_toArray, List.getElem_cons_zero, List.getElem_cons_succ, List.getElem?_cons_zero, List.getElem?_cons_succ] at h0 h1
      simp only [c4, c1, List.drop_zero, List.take_succ_cons, List.take_zero, List.drop_succ_cons] at h0 h1
      obtain ⟨z0, z1, z2, z3, m, _, e0, e1, e2, e3⟩ := trod_array4 Tryz.underlying22 ci h0
      obtain ⟨a, ea, _⟩ := DataW.trod_int Tryz.underlying3 e0
      obtain ⟨b, eb, _⟩ := DataW.trod_int Tryz.underlying3 e1
      obtain ⟨c, ec, _⟩ := DataW.trod_int Tryz.underlying3 e2
      obtain ⟨d, ed, _⟩ := DataW.trod_int Tryz.underlying3 e3
      obtain ⟨A, k, l, el, hr, hl⟩ := open_dots h1
      injection ea with ea
      injection eb with eb
      injection ec with ec
      injection ed with ed
      injection el with el
      subst ea eb ec ed el
      exact ⟨⟨a, b, c, d, l⟩, A, k, rfl, hr, hl⟩

set_option maxRecDepth 100000 in
theorem arg_ctx {H : Type} {enc : TypeId × Value → H} {w : World} {r : Reach} {b0 base : Nat} {spare : Nat → Bool} {held : Bool} {v : Value} {d : DataW H} {p : List MemPlace}
    (hv : Value.okWide Tryz.prog w r b0 25 v) (h : DataW.Trod enc Tryz.prog w base spare held 25 v d p) :
    ∃ (c : Ctx) (A : Option Addr) (k : Nat), v = cval c A k ∧ Row w w.heap.size A (dcells c.cloud) ∧ c.cloud.length ≤ 9223372036854775807 := by
  obtain ⟨⟨cs⟩, rfl, _⟩ := okWide_struct Tryz.underlying25 hv
  obtain ⟨n, hn⟩ := h
  obtain ⟨c, A, k, e, hr, hl⟩ := open_ctx_cells hn
  simp only [Value.cells] at e
  subst e
  exact ⟨c, A, k, rfl, hr, hl⟩

set_option maxRecDepth 100000 in
theorem arg_dot {H : Type} {enc : TypeId × Value → H} {w : World} {r : Reach} {b0 base : Nat} {spare : Nat → Bool} {held : Bool} {v : Value} {d : DataW H} {p : List MemPlace}
    (hv : Value.okWide Tryz.prog w r b0 57 v) (h : DataW.Trod enc Tryz.prog w base spare held 57 v d p) : ∃ x : Int × Int, v = dval x := by
  obtain ⟨⟨cs⟩, rfl, _⟩ := okWide_struct Tryz.underlying57 hv
  obtain ⟨n, hn⟩ := h
  obtain ⟨a, b, e⟩ := open_dot hn
  simp only [Value.cells] at e
  subst e
  exact ⟨(a, b), rfl⟩

set_option maxRecDepth 100000 in
theorem arg_dots {H : Type} {enc : TypeId × Value → H} {w : World} {r : Reach} {b0 base : Nat} {spare : Nat → Bool} {held : Bool} {v : Value} {d : DataW H} {p : List MemPlace}
    (hv : Value.okWide Tryz.prog w r b0 23 v) (h : DataW.Trod enc Tryz.prog w base spare held 23 v d p) :
    ∃ (A : Option Addr) (k : Nat) (l : List (Int × Int)), v = .slice A l.length k ∧ Row w w.heap.size A (dcells l) ∧ l.length ≤ 9223372036854775807 := by
  obtain ⟨a, n, c, rfl⟩ := okWide_slice Tryz.underlying23 hv
  obtain ⟨m, hm⟩ := h
  obtain ⟨A, k, l, e, hr, hl⟩ := open_dots hm
  simp only [Value.cells, List.cons.injEq, and_true] at e
  exact ⟨A, k, l, e, hr, hl⟩

set_option maxRecDepth 100000 in
theorem arg_int {H : Type} {enc : TypeId × Value → H} {w : World} {r : Reach} {b0 base : Nat} {spare : Nat → Bool} {held : Bool} {v : Value} {d : DataW H} {p : List MemPlace}
    (hv : Value.okWide Tryz.prog w r b0 3 v) (h : DataW.Trod enc Tryz.prog w base spare held 3 v d p) : ∃ n : Int, v = .int .i64 n ∧ (Lit.int .i64 n).wf = true := by
  obtain ⟨n, rfl, _, _, hw⟩ := open_int Tryz.underlying3 hv h
  exact ⟨n, rfl, hw⟩
end Go.Proofs.YtmcdaibdpeeefaaGreat
/- Arguments that are tables or lists of contexts, as a claim reads them; what the second form's bound gives. -/
namespace Go.Proofs.YtmcdaibdpeeefaaGreat
set_option linter.unusedVariables false
open Go.ChangeShapes Go.WideShapes Go.ChangeAt Go.RowKit Go.Deep

theorem bulk_one {H : Type} (d : DataW H) : 1 ≤ Rows.uptoBulk d := by
  cases d with
  | lit l => cases l <;> simp [Rows.uptoBulk]
  | nil => simp [Rows.uptoBulk]
  | ptr d => simp [Rows.uptoBulk]
  | slice elems spare => simp [Rows.uptoBulk]
  | agg parts => simp [Rows.uptoBulk]
  | iface t d => simp [Rows.uptoBulk]
  | map entries => simp [Rows.uptoBulk]
  | held h => simp [Rows.uptoBulk]
theorem bulk_len {H : Type} (l : List (DataW H)) : l.length ≤ Rows.uptoBulkAll l := by
  induction l with
  | nil => simp [Rows.uptoBulkAll]
  | cons x r ih => have := bulk_one x; simp only [Rows.uptoBulkAll, List.length_cons]; omega
theorem bulk_slice {H : Type} (elems spare : List (DataW H)) : elems.length + 1 ≤ Rows.uptoBulk (.slice elems spare) := by
  have h1 := bulk_len elems
  simp only [Rows.uptoBulk]
  omega
theorem bulk_part {H : Type} {d : DataW H} {l : List (DataW H)} (h : d ∈ l) : Rows.uptoBulk d ≤ Rows.uptoBulkAll l := by
  induction l with
  | nil => cases h
  | cons x r ih =>
    simp only [Rows.uptoBulkAll]
    cases List.mem_cons.1 h with
    | inl e => subst e; omega
    | inr e => have := ih e; omega

set_option maxRecDepth 100000 in
theorem open_cel {H : Type} {enc : TypeId × Value → H} {w : World} {base n : Nat} {spare : Nat → Bool} {held : Bool} {cs : List Value} {x : DataW H × List MemPlace}
    (h : DataW.trod enc Tryz.prog w base spare held n 59 cs = some x) : ∃ y : Cel, cs = y.cells := by
  obtain ⟨xs, n', _, hx, hlen, hxl, hf⟩ := DataW.trod_struct Tryz.underlying59 h
  have c5 : Tryz.prog.cellsOf 59 = 5 := by kernel_rfl
  have c2 : Tryz.prog.cellsOf 57 = 2 := by kernel_rfl
  have c1 : Tryz.prog.cellsOf 3 = 1 := by kernel_rfl
  rw [c5] at hlen
  match cs, hlen with
  | [u0, u1, u2, u3, u4], _ =>
    match xs, hxl with
    | [y0, y1, y2, y3], _ =>
      have h0 := hf 0 _ rfl
      have h1 := hf 1 _ rfl
      have h2 := hf 2 _ rfl
      have h3 := hf 3 _ rfl
      simp only [List.getElem_toArray, List.getElem_cons_zero, List.getElem_cons_succ, List.getElem?_cons_zero, List.getElem?_cons_succ] at h0 h1 h2 h3
      simp only [c2, c1, List.drop_zero, List.take_succ_cons, List.take_zero, List.drop_succ_cons] at h0 h1 h2 h3
      obtain ⟨a, b, e0⟩ := open_dot h0
      obtain ⟨c, e1, _⟩ := DataW.trod_int Tryz.underlying3 h1
      obtain ⟨d, e2, _⟩ := DataW.trod_int Tryz.underlying3 h2
      obtain ⟨e, e3, _⟩ := DataW.trod_int Tryz.underlying3 h3
      injection e0 with e0 e0'
      injection e0' with e0' _
      injection e1 with e1
      injection e2 with e2
      injection e3 with e3
      subst e0 e0' e1 e2 e3
      exact ⟨⟨(a, b), c, d, e⟩, rfl⟩

/-- A slice of things of s cells each, as the claim reads it. -/
theorem open_each {α H : Type} {f : α → List Value} {s : Nat} (hf : ∀ x, (f x).length = s) (hs : 0 < s) {Q : α → Prop} {enc : TypeId × Value → H} {w : World} {base n : Nat} {spare : Nat → Bool} {held : Bool} {cs : List Value} {x : DataW H × List MemPlace} {t e : TypeId}
    (ht : Tryz.prog.underlying t = some (.slice e)) (hc : Tryz.prog.cellsOf e = s)
    (ho : ∀ n cs y, DataW.trod enc Tryz.prog w base spare held n e cs = some y → ∃ z : α, Q z ∧ cs = f z)
    (h : DataW.trod enc Tryz.prog w base spare held n t cs = some x) :
    ∃ (A : Option Addr) (k : Nat) (l : List α), cs = [.slice A l.length k] ∧ Row w w.heap.size A (l.flatMap f) ∧ (∀ z ∈ l, Q z) ∧ l.length ≤ 9223372036854775807 ∧ l.length ≤ Rows.uptoBulk x.1 := by
  rcases open_slice ht h with ⟨rfl, hx⟩ | ⟨a, len, cap, m, n', D, Pl, rfl, hb, hl, hm, hmm, hx, hi⟩
  · exact ⟨none, 0, [], rfl, Row.nil, by simp, by simp, by simp⟩
  · by_cases h0 : len = 0
    · subst h0
      exact ⟨some a, cap, [], rfl, Row.nil, by simp, by simp, by simp⟩
    · have hlm : len ≤ m := by rw [hmm]; split <;> omega
      have hd : ∀ i, i < len → ∃ z : α, Q z ∧ ∀ j u, (f z)[j]? = some u → w.cell? ((a.add (i * s)).add j) = some u := by
        intro i hil
        obtain ⟨cs', hc', ht'⟩ := hi i (by omega)
        obtain ⟨z, hq, rfl⟩ := ho _ _ _ ht'
        rw [hc] at hc'
        obtain ⟨_, _, hat⟩ := World.cells?_some hc'
        refine ⟨z, hq, fun j u hu => ?_⟩
        have hj : j < s := by
          rcases Nat.lt_or_ge j s with q | q
          · exact q
          · rw [List.getElem?_eq_none (by rw [hf]; exact q)] at hu; cases hu
        rw [hat j hj]; exact hu
      obtain ⟨b, off, spot⟩ := a
      obtain ⟨z0, _, hz0⟩ := hd 0 (by omega)
      have hu0 : (f z0)[0]? = some ((f z0)[0]'(by rw [hf]; exact hs)) := List.getElem?_eq_getElem _
      have hx0 := hz0 0 _ hu0
      have hspot : spot = none := by simpa [Addr.add] using World.cell?_spot hx0
      subst hspot
      have hblk : b < w.heap.size := World.block_lt_of_cell? _ _ (by simpa [Addr.add] using hx0)
      obtain ⟨l, hll, hql, hr⟩ := Row.of_each hf (w := w) (b := b) (off := off) (n := len) hblk (Q := Q) (fun i hil => by
        obtain ⟨z, hq, hz⟩ := hd i hil
        refine ⟨z, hq, fun j u hu => ?_⟩
        have := hz j u hu
        rw [add_none, add_none, Nat.add_assoc] at this
        exact this)
      subst hll
      refine ⟨some ⟨b, off, none⟩, cap, l, rfl, hr, hql, ?_, ?_⟩
      · simp only [maxLen] at hm
        omega
      · rw [hx]
        have := bulk_slice ((List.range l.length).map D) ((List.range (m - l.length)).map fun j => D (l.length + j))
        simp only [List.length_map, List.length_range] at this
        simp only
        omega

set_option maxRecDepth 100000 in
theorem open_tab_cells {H : Type} {enc : TypeId × Value → H} {w : World} {base n : Nat} {spare : Nat → Bool} {held : Bool} {cs : List Value} {x : DataW H × List MemPlace}
    (h : DataW.trod enc Tryz.prog w base spare held n 28 cs = some x) :
    ∃ (t : Tab) (A : Option Addr) (k : Nat) (B : Option Addr) (m : Nat), cs = [.int .i64 t.c.c0, .int .i64 t.c.c1, .int .i64 t.c.c2, .int .i64 t.c.c3, .slice A t.c.cloud.length k, .slice B t.cells.length m] ∧
      Row w w.heap.size A (dcells t.c.cloud) ∧ t.c.cloud.length ≤ 9223372036854775807 ∧ Row w w.heap.size B (tcells t.cells) ∧ t.cells.length ≤ 9223372036854775807 := by
  obtain ⟨xs, n', _, hx, hlen, hxl, hf⟩ := DataW.trod_struct Tryz.underlying28 h
  have c6 : Tryz.prog.cellsOf 28 = 6 := by kernel_rfl
  have c5 : Tryz.prog.cellsOf 25 = 5 := by kernel_rfl
  have c1 : Tryz.prog.cellsOf 26 = 1 := by kernel_rfl
  rw [c6] at hlen
  match cs, hlen with
  | [u0, u1, u2, u3, u4, u5], _ =>
    match xs, hxl with
    | [y0, y1], _ =>
      have h0 := hf 0 _ rfl
      have h1 := hf 1 _ rfl
      simp only [List.getElem_toArray, List.getElem_cons_zero, List.getElem_cons_succ, List.getElem?_cons_zero, List.getElem?_cons_succ] at h0 h1
      simp only [c5, c1, List.drop_zero, List.take_succ_cons, List.take_zero, List.drop_succ_cons] at h0 h1
      obtain ⟨c, A, k, e0, r0, l0⟩ := open_ctx_cells h0
      obtain ⟨B, m, l, e1, r1, -, l1, -⟩ := open_each (f := Cel.cells) (Q := fun _ => True) Cel.len (by decide) Tryz.underlying26 (by kernel_rfl) (fun n cs y hy => by
        obtain ⟨z, e⟩ := open_cel hy
        exact ⟨z, trivial, e⟩) h1
      simp only [List.cons.injEq, and_true] at e0 e1
      obtain ⟨rfl, rfl, rfl, rfl, rfl⟩ := e0
      subst e1
      exact ⟨⟨c, l⟩, A, k, B, m, rfl, r0, l0, r1, l1⟩

set_option maxRecDepth 100000 in
theorem arg_table {H : Type} {enc : TypeId × Value → H} {w : World} {r : Reach} {b0 base : Nat} {spare : Nat → Bool} {held : Bool} {v : Value} {d : DataW H} {p : List MemPlace}
    (hv : Value.okWide Tryz.prog w r b0 28 v) (h : DataW.Trod enc Tryz.prog w base spare held 28 v d p) :
    ∃ (t : Tab) (A : Option Addr) (k : Nat) (B : Option Addr) (m : Nat), v = tval t A k B m ∧ Row w w.heap.size A (dcells t.c.cloud) ∧ t.c.cloud.length ≤ 9223372036854775807 ∧ Row w w.heap.size B (tcells t.cells) ∧ t.cells.length ≤ 9223372036854775807 := by
  obtain ⟨⟨cs⟩, rfl, _⟩ := okWide_struct Tryz.underlying28 hv
  obtain ⟨n, hn⟩ := h
  obtain ⟨t, A, k, B, m, e, r0, l0, r1, l1⟩ := open_tab_cells hn
  simp only [Value.cells] at e
  subst e
  exact ⟨t, A, k, B, m, rfl, r0, l0, r1, l1⟩
end Go.Proofs.YtmcdaibdpeeefaaGreat
