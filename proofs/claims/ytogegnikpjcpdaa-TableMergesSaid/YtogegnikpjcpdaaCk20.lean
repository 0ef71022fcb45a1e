/- RCell, Pairs -/
import Derived.Test.YtogegnikpjcpdaaCk12
import Derived.Test.YtogegnikpjcpdaaCk06
/- viewref.cell; the plain law of viewref.Merge; its order of cells. -/
namespace Go.Proofs.Ytogegnikpjcpdaa
set_option linter.unusedVariables false
open Go.ChangeShapes Go.WideShapes Go.ChangeAt Go.RowKit
open Go.Shelf Go.Lib
open Go.Sort (grow SWO alloc_eq_grow grow_grow drew_grow)

theorem dot_eq (a b c d : Int) : (a == c && b == d) = decide (((a, b) : Int × Int) = (c, d)) := by rw [Bool.eq_iff_iff]; simp
def cellB (l : List Cel) (d : Int × Int) : Bool := l.any fun x => decide (x.d = d)
def cellX (l : List Cel) (d : Int × Int) : Cel := (l.find? fun x => decide (x.d = d)).getD ⟨(0, 0), 0, 0, 0⟩
theorem cellB_iff {l : List Cel} {d : Int × Int} : cellB l d = true ↔ ∃ x ∈ l, x.d = d := by simp [cellB]
theorem cellB_no {l : List Cel} {d : Int × Int} : cellB l d = false ↔ ∀ x ∈ l, x.d ≠ d := by
  rw [← Bool.not_eq_true, cellB_iff]; simp
theorem cellX_in {l : List Cel} {d : Int × Int} (h : cellB l d = true) : cellX l d ∈ l ∧ (cellX l d).d = d := by
  unfold cellX
  cases hf : l.find? fun x => decide (x.d = d) with
  | none =>
    rw [List.find?_eq_none] at hf
    obtain ⟨x, hx, e⟩ := cellB_iff.1 h
    exact absurd e (by simpa using hf x hx)
  | some y =>
    have h1 := List.mem_of_find?_eq_some hf
    have h2 := List.find?_some hf
    exact ⟨h1, by simpa using h2⟩
theorem cellX_none {l : List Cel} {d : Int × Int} (h : cellB l d = false) : cellX l d = ⟨(0, 0), 0, 0, 0⟩ := by
  unfold cellX
  rw [List.find?_eq_none.2 fun x hx => by simpa using cellB_no.1 h x hx]
  rfl
theorem cellX_first {l : List Cel} {i : Nat} (hi : i < l.length) (hno : ∀ j (h : j < l.length), j < i → l[j].d ≠ l[i].d) : cellX l l[i].d = l[i] := by
  unfold cellX
  have : l.find? (fun x => decide (x.d = l[i].d)) = some l[i] := by
    rw [List.find?_eq_some_iff_getElem]
    exact ⟨by simp, i, hi, rfl, fun j hj => by simpa using hno j (by omega) hj⟩
  rw [this]; rfl

def rallL (a b : Tab) : List Cel := a.cells ++ b.cells.filter fun y => !cellB a.cells y.d
def routB (a b : Tab) (z : Cel) : Bool := (cellB a.cells z.d && cellB b.cells z.d || cellB a.cells z.d && !hasB b.c z.d) || cellB b.cells z.d && !hasB a.c z.d
def routL (a b : Tab) : List Cel := ((rallL a b).mergeSort celLe).filter (routB a b)
theorem rall_mem {a b : Tab} {x : Cel} : x ∈ rallL a b ↔ x ∈ a.cells ∨ (x ∈ b.cells ∧ ∀ y ∈ a.cells, y.d ≠ x.d) := by
  unfold rallL
  rw [List.mem_append, List.mem_filter, Bool.not_eq_true', cellB_no]
theorem nodup_dots {l : List Cel} (h : l.Pairwise (fun x y => before x.d y.d = true)) : l.Pairwise (fun x y => x.d ≠ y.d) := h.imp fun {x y} hxy e => by
  rw [before_iff, e] at hxy; omega
theorem rall_dots {a b : Tab} (ha : tabI a = 0) (hb : tabI b = 0) : (rallL a b).Pairwise (fun x y => x.d ≠ y.d) := by
  have sa := nodup_dots (tabI_iff.1 ha).2.2.2.2
  have sb := nodup_dots (tabI_iff.1 hb).2.2.2.2
  refine List.pairwise_append.2 ⟨sa, sb.filter _, fun x hx y hy => ?_⟩
  rw [List.mem_filter, Bool.not_eq_true', cellB_no] at hy
  exact hy.2 x hx
theorem rall_sorted {a b : Tab} (ha : tabI a = 0) (hb : tabI b = 0) : ((rallL a b).mergeSort celLe).Pairwise (fun x y => before x.d y.d = true) := by
  have h1 := List.pairwise_mergeSort celLe_trans celLe_total (rallL a b)
  have h2 : ((rallL a b).mergeSort celLe).Pairwise (fun x y => x.d ≠ y.d) := (List.mergeSort_perm _ _).symm.pairwise (rall_dots ha hb) (fun h e => h e.symm)
  refine (h1.and h2).imp fun {x y} h => ?_
  obtain ⟨h1, h2⟩ := h
  simp only [celLe, celLt, Bool.not_eq_true'] at h1
  have hnb : ¬ before y.d x.d = true := by rw [h1]; simp
  rw [before_iff] at hnb ⊢
  have : ¬ (x.d.1 = y.d.1 ∧ x.d.2 = y.d.2) := fun ⟨h, h'⟩ => h2 (Prod.ext h h')
  omega
theorem rout_eq {a b : Tab} (h : bothE a b = 0) : routL a b = mergeL a b := by
  obtain ⟨ha, hb, hu⟩ := bothE_iff.1 h
  refine cells_ext ((rall_sorted ha hb).filter _) (mergeL_sorted h) fun x => ?_
  unfold routL
  rw [List.mem_filter, List.mem_mergeSort, rall_mem, mergeL_mem]
  have ua := cells_unique ha
  have ub := cells_unique hb
  by_cases xa : x ∈ a.cells
  · have ca : cellB a.cells x.d = true := cellB_iff.2 ⟨x, xa, rfl⟩
    have cb : cellB b.cells x.d = decide (x ∈ b.cells) := by
      rw [Bool.eq_iff_iff, cellB_iff, decide_eq_true_eq]
      exact ⟨fun ⟨y, hy, e⟩ => by rw [hu x xa y hy e.symm]; exact hy, fun hx => ⟨x, hx, rfl⟩⟩
    unfold routB
    rw [ca, cb]
    by_cases xb : x ∈ b.cells <;> cases yb : hasB b.c x.d <;> cases ya : hasB a.c x.d <;> simp [xa, xb]
  · by_cases xb : x ∈ b.cells
    · have cb : cellB b.cells x.d = true := cellB_iff.2 ⟨x, xb, rfl⟩
      have ca : cellB a.cells x.d = false := cellB_no.2 fun y hy e => xa (by rw [← hu y hy x xb e]; exact hy)
      have h2 := cellB_no.1 ca
      unfold routB
      rw [ca, cb]
      cases yb : hasB b.c x.d <;> cases ya : hasB a.c x.d <;> simp [xa, xb] <;> exact h2
    · simp [xa, xb]
theorem clash_iff {a b : Tab} (ha : tabI a = 0) {y : Cel} : clashB a b y = (cellB a.cells y.d && !decide (cellX a.cells y.d = y)) := by
  rw [Bool.eq_iff_iff]
  unfold clashB
  simp only [List.any_eq_true, Bool.and_eq_true, decide_eq_true_eq, Bool.not_eq_true', decide_eq_false_iff_not]
  constructor
  · rintro ⟨x, hx, e, hne⟩
    have hc : cellB a.cells y.d = true := cellB_iff.2 ⟨x, hx, e⟩
    obtain ⟨h1, h2⟩ := cellX_in hc
    exact ⟨hc, by rw [cells_unique ha _ h1 _ hx (h2.trans e.symm)]; exact hne⟩
  · rintro ⟨h1, h2⟩
    obtain ⟨h3, h4⟩ := cellX_in h1
    exact ⟨_, h3, h4, h2⟩

set_option maxHeartbeats 1000000 in
set_option maxRecDepth 100000 in
theorem cell_any (t : Tab) (d : Int × Int) (A : Option Addr) (k : Nat) (B : Option Addr) (m : Nat) (w : World) (rb : Row w w.heap.size B (tcells t.cells)) (lb : t.cells.length ≤ 9223372036854775807) :
    Calls Try.prog 90 #[tval t A k B m, dval d] w fun e w' => e = .returned (.tuple #[celv (cellX t.cells d), .bool (cellB t.cells d)]) ∧ Below w.heap.size w w' := by
  have HR := hid (fun w1 (hb : Below w.heap.size w w1) => rb.step hb)
  have HN := hid (fun (h : ∀ j (hj : j < t.cells.length), t.cells[j].d ≠ d) => show cellB t.cells d = false from cellB_no.2 fun x hx => by
    obtain ⟨j, hj, e⟩ := List.getElem_of_mem hx
    rw [← e]; exact h j hj)
  have HNX := hid (fun (h : cellB t.cells d = false) => cellX_none h)
  have HY := hid (fun i (hi : i < t.cells.length) (e : t.cells[i].d = d) (hno : ∀ j (hj : j < t.cells.length), j < i → t.cells[j].d ≠ d) => show cellX t.cells d = t.cells[i] ∧ cellB t.cells d = true from
    ⟨by rw [← e]; exact cellX_first hi (fun j hj hji => by rw [e]; exact hno j hj hji), cellB_iff.2 ⟨_, List.getElem_mem _, e⟩⟩)
  obtain ⟨X, hX⟩ : ∃ X, X = cellX t.cells d := ⟨_, rfl⟩
  obtain ⟨b, hb⟩ : ∃ b, b = cellB t.cells d := ⟨_, rfl⟩
  rw [← hX, ← hb] at HY HNX ⊢
  rw [← hb] at HN
  clear hX hb rb
  obtain ⟨⟨c0, c1, c2, c3, cl⟩, l⟩ := t
  obtain ⟨v0, v1⟩ := d
  simp only [tval, dval] at *
  go_enter Try.func90, Try.ntmps90
  go_wp2
  obtain ⟨W0, hW0⟩ : ∃ W0 : World, W0 = ((w.alloc (.cells #[.int .i64 c0, .int .i64 c1, .int .i64 c2, .int .i64 c3, .slice A cl.length k, .slice B l.length m] 59)).alloc (.cells #[.int .i64 v0, .int .i64 v1] 27)).alloc (.cells #[.int .i64 0, .int .i64 0, .int .i64 0, .int .i64 0, .int .i64 0] 62) := ⟨_, rfl⟩
  rw [← hW0]
  have HB0 := hid (show Below w.heap.size w W0 by rw [hW0]; (repeat' (first | (with_reducible exact Below.refl _ _) | (with_reducible assumption) | (with_reducible refine below_drewN ?_ _) | (with_reducible refine Below.drew ?_) | (with_reducible refine Below.alloc ?_ ?_ _) | (with_reducible refine Below.setCell ?_ ?_ _) | (refine Below.trans ?_ (Below.mono (by assumption) ?_)) | go_size)))
  have HXT := hid (show Blk W0 w.heap.size #[.int .i64 c0, .int .i64 c1, .int .i64 c2, .int .i64 c3, .slice A cl.length k, .slice B l.length m] 59 by rw [hW0]; exact ((Blk.new w _ _).alloc _).alloc _)
  have HXD := hid (show Blk W0 (w.heap.size + 1) #[.int .i64 v0, .int .i64 v1] 27 by rw [hW0]; exact (Blk.new' (w.alloc _) _ _ (by simp)).alloc _)
  have HXR := hid (show Blk W0 (w.heap.size + 1 + 1) #[.int .i64 0, .int .i64 0, .int .i64 0, .int .i64 0, .int .i64 0] 62 by rw [hW0]; exact Blk.new' ((w.alloc _).alloc _) _ _ (by simp))
  clear hW0
  go_loopw [6] (fun i wr => (∃ k : Nat, k ≤ l.length ∧ i = .int .i64 k ∧ ∀ j (h : j < l.length), j < k → l[j].d ≠ (v0, v1)) ∧ Below W0.heap.size W0 wr) (fun i _ => l.length - (intOf i).toNat)
  case atStart => exact ⟨⟨0, by omega, rfl, fun j _ h => absurd h (by omega)⟩, Below.refl _ _⟩
  case round =>
    obtain ⟨⟨i, hi, rfl, hno⟩, hbw⟩ := hrel
    have HXT1 := hid (HXT.out.step hbw)
    have HXD1 := hid (HXD.out.step hbw)
    have HXR1 := hid (HXR.out.step hbw)
    have HBW := hid hbw
    have HBB := hid (Below.step' HB0.out hbw)
    have HNO := hid hno
    clear hno hbw
    obtain ⟨cHXT1, fHXT1, sHXT1, nHXT1⟩ := HXT1.out.all
    try simp only [cbox] at cHXT1
    obtain ⟨cHXD1, fHXD1, sHXD1, nHXD1⟩ := HXD1.out.all
    try simp only [cbox] at cHXD1
    obtain ⟨cHXR1, fHXR1, sHXR1, nHXR1⟩ := HXR1.out.all
    try simp only [cbox] at cHXR1
    by_cases hlt : i < l.length
    · obtain ⟨b', off, hA, hb, e0, e1, e2, e3, e4⟩ := (HR.out wr HBB.out).cel hlt
      subst hA
      have HG := hid (fun (j : Nat) (hj : j = i) (h : j < l.length) => show l[j] = l[i] by subst hj; rfl)
      have HYi := hid (fun e => HY.out i hlt e HNO.out)
      generalize l[i] = x at *
      obtain ⟨⟨d0, d1⟩, ky, co, vl⟩ := x
      simp only at e0 e1 e2 e3 e4
      have hq := fun w => eql_dot d0 d1 v0 v1 w
      rw [dot_eq] at hq
      by_cases qe : ((d0, d1) : Int × Int) = (v0, v1)
      · rw [decide_eq_true qe] at hq
        obtain ⟨y1, y2⟩ := HYi.out qe
        replace y1 := hid y1
        replace y2 := hid y2
        clear qe
        go_wp2
        refine wp_region_quiet_lit (by kernel_rfl) (by kernel_rfl) ?_
        repeat (any_goals ((with_reducible refine wpQuiet_step (fun K hK => ?_)); go_simp; first | (with_reducible refine hK _ ?_; clear hK K) | ((with_reducible apply Exists.intro); (with_reducible refine ⟨fun _ => ?_, hK _ ?_⟩); (fail); clear hK K) | ((with_reducible refine (if_neg ?_).mpr (hK _ ?_)); (decide); clear hK K) | (split <;> (with_reducible refine hK _ ?_; clear hK K))))
        all_goals ((with_reducible refine wpQuiet_nil ?_); intro _ hw'; obtain ⟨nq, hw''⟩ := hw'; subst hw'')
        clear hq
        have hb5 := below_drewN HBB.out nq
        have HR5 := hid (Blk.set5 (HXR1.out.drewN nq) (.int .i64 d0) (.int .i64 d1) (.int .i64 ky) (.int .i64 co) (.int .i64 vl))
        have HB5 := hid (Below.set5 hb5 (show w.heap.size ≤ w.heap.size + 1 + 1 by omega) (.int .i64 d0) (.int .i64 d1) (.int .i64 ky) (.int .i64 co) (.int .i64 vl))
        go_wp2
        obtain ⟨⟨q0, q1, q2, q3, q4⟩, -⟩ := HR5.out.five
        exact bodyPost_ret (v := .tuple #[celv ⟨(d0, d1), ky, co, vl⟩, .bool true]) (by simp [results, Try.results90, go_sem, q0, q1, q2, q3, q4]) rfl ⟨by rw [y1.out, y2.out], HB5.out⟩
      · rw [decide_eq_false qe] at hq
        have QE := hid qe
        clear qe
        go_wp2
        refine wp_region_quiet_lit (by kernel_rfl) (by kernel_rfl) ?_
        repeat (any_goals ((with_reducible refine wpQuiet_step (fun K hK => ?_)); go_simp; first | (with_reducible refine hK _ ?_; clear hK K) | ((with_reducible apply Exists.intro); (with_reducible refine ⟨fun _ => ?_, hK _ ?_⟩); (fail); clear hK K) | ((with_reducible refine (if_neg ?_).mpr (hK _ ?_)); (decide); clear hK K) | (split <;> (with_reducible refine hK _ ?_; clear hK K))))
        all_goals ((with_reducible refine wpQuiet_nil ?_); intro _ hw'; obtain ⟨nq, hw''⟩ := hw'; subst hw'')
        clear hq
        go_wp2
        go_roundw
        case rel =>
          refine ⟨⟨i + 1, by omega, by go_num, fun j h hj => ?_⟩, below_drewN HBW.out _⟩
          by_cases e : j = i
          · rw [HG.out j e h]; exact QE.out
          · exact HNO.out j h (by omega)
        case measure => simp [intOf]; omega
    · have hb0 := HN.out (fun j hj => HNO.out j hj (by omega))
      have hx0 := HNX.out hb0
      subst hb0 hx0
      have HR5 := hid (Blk.set5 HXR1.out (.int .i64 0) (.int .i64 0) (.int .i64 0) (.int .i64 0) (.int .i64 0))
      have HB5 := hid (Below.set5 HBB.out (show w.heap.size ≤ w.heap.size + 1 + 1 by omega) (.int .i64 0) (.int .i64 0) (.int .i64 0) (.int .i64 0) (.int .i64 0))
      go_wp2
      obtain ⟨⟨q0, q1, q2, q3, q4⟩, -⟩ := HR5.out.five
      exact bodyPost_ret (v := .tuple #[celv ⟨(0, 0), 0, 0, 0⟩, .bool false]) (by simp [results, Try.results90, go_sem, q0, q1, q2, q3, q4]) rfl ⟨rfl, HB5.out⟩
end Go.Proofs.Ytogegnikpjcpdaa
/- viewlaw.DotPairs: the walk. -/
namespace Go.Proofs.Ytogegnikpjcpdaa
set_option linter.unusedVariables false
open Go.ChangeShapes Go.WideShapes Go.ChangeAt Go.RowKit

theorem two_ok {a b : Ctx} (h : twoI a b = 0) : okC a ∧ okC b ∧ a.cloud.length ≤ 400 ∧ b.cloud.length ≤ 400 := by
  obtain ⟨h1, h2⟩ := twoI_zero.1 h
  obtain ⟨h3, h4⟩ := (checkI_iff a).1 h1
  obtain ⟨h5, h6⟩ := (checkI_iff b).1 h2
  exact ⟨h3, h5, h4, h6⟩
theorem minus_miss {a b : Ctx} (h : twoI a b = 0) : minusX a b = (if 400 < (missR a b).length then [] else missR a b) ∧ minusE a b = (if 400 < (missR a b).length then 2 else 0) ∧ lessX a b = decide ((missR a b).length = 0) := by
  obtain ⟨ha, hb, -, -⟩ := two_ok h
  have hp := (all_perm (b := b) ha).length_eq
  have e1 : minusX a b = if 400 < (clkAll a b ++ cldAll a b).length then [] else (clkAll a b ++ cldAll a b).mergeSort dotLe := by unfold minusX; rw [if_neg (by simp [h])]
  have e2 : minusE a b = if 400 < (clkAll a b ++ cldAll a b).length then 2 else 0 := by unfold minusE; rw [if_neg (by simp [h])]
  have e3 : lessX a b = decide (missL a b = []) := by unfold lessX; rw [if_neg (by simp [h])]; exact less_miss ha hb
  rw [e1, e2, e3, hp, minus_eq ha]
  by_cases h4 : 400 < (missL a b).length
  · have h5 := missR_big a b h4
    rw [if_pos h4, if_pos h4, if_pos h5, if_pos h5]
    refine ⟨rfl, rfl, ?_⟩
    rw [decide_eq_false (fun e => by rw [e] at h4; simp at h4), decide_eq_false (by omega)]
  · have h5 := missR_eq a b (by omega)
    rw [h5, if_neg h4, if_neg h4]
    refine ⟨rfl, rfl, ?_⟩
    simp
theorem join_two {a b : Ctx} (h : twoI a b = 0) : joinX a b = (if 400 < (joinC a b).cloud.length then ⟨0, 0, 0, 0, []⟩ else joinC a b) ∧ joinE a b = (if 400 < (joinC a b).cloud.length then 2 else 0) :=
  ⟨by unfold joinX; rw [if_neg (by simp [h])], by unfold joinE; rw [if_neg (by simp [h])]⟩
theorem bad_two {a b : Ctx} (h : twoI a b ≠ 0) : joinX a b = ⟨0, 0, 0, 0, []⟩ ∧ joinE a b = twoI a b ∧ minusX a b = [] ∧ minusE a b = twoI a b ∧ lessX a b = false :=
  ⟨by unfold joinX; rw [if_pos h], by unfold joinE; rw [if_pos h], by unfold minusX; rw [if_pos h], by unfold minusE; rw [if_pos h], by unfold lessX; rw [if_pos h]⟩
theorem joinX_len (a b : Ctx) : (joinX a b).cloud.length ≤ 400 := by
  unfold joinX
  split
  · simp
  · split
    · simp
    · omega
theorem minusX_len (a b : Ctx) : (minusX a b).length ≤ 400 := by
  unfold minusX
  split
  · simp
  · split
    · simp
    · rw [List.length_mergeSort]; omega

set_option maxHeartbeats 4000000 in
set_option maxRecDepth 100000 in
theorem pairs_any (a b : Ctx) (A B : Option Addr) (k m : Nat) (w : World) (ra : Row w w.heap.size A (dcells a.cloud)) (la : a.cloud.length ≤ 9223372036854775807)
    (rb : Row w w.heap.size B (dcells b.cloud)) (lb : b.cloud.length ≤ 9223372036854775807) :
    Calls Try.prog 4 #[cval a A k, cval b B m] w fun e w' => e = .returned (.bool true) ∧ Below w.heap.size w w' := by
  have H2 := hid (fun w1 (hb : Below w.heap.size w w1) => two_any a b A B k m w1 (ra.step hb) la (rb.step hb) lb)
  have HJ := hid (fun w1 (hb : Below w.heap.size w w1) => join_any a b A B k m w1 (ra.step hb) la (rb.step hb) lb)
  have HL := hid (fun w1 (hb : Below w.heap.size w w1) => less_any a b A B k m w1 (ra.step hb) la (rb.step hb) lb)
  have HM := hid (fun w1 (hb : Below w.heap.size w w1) => minus_any a b A B k m w1 (ra.step hb) la (rb.step hb) lb)
  have HRJ := hid (fun w1 (hb : Below w.heap.size w w1) (h : twoI a b = 0) => joined_any a b A B k m w1 (ra.step hb) (two_ok h).2.2.1 (rb.step hb) (two_ok h).2.2.2 (two_ok h).1 (two_ok h).2.1)
  have HRM := hid (fun w1 (hb : Below w.heap.size w w1) (h : twoI a b = 0) => missing_any a b A B k m w1 (ra.step hb) (two_ok h).2.2.1 (rb.step hb) (two_ok h).2.2.2 (two_ok h).1.1 (two_ok h).2.1.1)
  have HRJ2 := hid (fun w1 (hb : Below w.heap.size w w1) (h : twoI a b = 0) => show Calls Try.prog 29 #[cval a A k, cval b B m] w1 (CtxErr (joinX a b) (joinE a b) w1) by
    rw [(join_two h).1, (join_two h).2]; exact HRJ.out w1 hb h)
  have hjl := joinX_len a b
  have hml := minusX_len a b
  clear ra rb HRJ
  go_enter Try.func4, Try.ntmps4
  simp only [cval]
  go_wp2_with fail
  refine (H2.out _ (by (repeat' (first | (with_reducible exact Below.refl _ _) | (with_reducible assumption) | (with_reducible refine below_drewN ?_ _) | (with_reducible refine Below.drew ?_) | (with_reducible refine Below.alloc ?_ ?_ _) | (with_reducible refine Below.setCell ?_ ?_ _) | (refine Below.trans ?_ (Below.mono (by assumption) ?_)) | go_size)))).mono ?_
  rintro e w1 ⟨rfl, hb1⟩
  have hB1 : Below w.heap.size w w1 := (by refine Below.step' ?_ hb1; (repeat' (first | (with_reducible exact Below.refl _ _) | (with_reducible assumption) | (with_reducible refine below_drewN ?_ _) | (with_reducible refine Below.drew ?_) | (with_reducible refine Below.alloc ?_ ?_ _) | (with_reducible refine Below.setCell ?_ ?_ _) | (refine Below.trans ?_ (Below.mono (by assumption) ?_)) | go_size)))
  have hXa : Blk w1 w.heap.size (cbox a A k) 25 := Blk.step (by exact (Blk.new w _ _).alloc _) hb1
  have hXb : Blk w1 (w.heap.size + 1) (cbox b B m) 25 := Blk.step (by exact Blk.new' (w.alloc _) _ _ (by simp)) hb1
  clear hb1
  go_upto_if 23 with fail
  obtain ⟨Q, hQ⟩ : ∃ Q, Q = w1.heap.size := ⟨_, rfl⟩
  obtain ⟨W2, hW2⟩ : ∃ W2 : World, W2 = w1.alloc (.cells #[.int .i64 0, .int .i64 0, .int .i64 0, .int .i64 0, .slice none 0 0] 25) := ⟨_, rfl⟩
  rw [← hW2, ← hQ]
  have hB2 : Below w1.heap.size w1 W2 := by rw [hW2]; (repeat' (first | (with_reducible exact Below.refl _ _) | (with_reducible assumption) | (with_reducible refine below_drewN ?_ _) | (with_reducible refine Below.drew ?_) | (with_reducible refine Below.alloc ?_ ?_ _) | (with_reducible refine Below.setCell ?_ ?_ _) | (refine Below.trans ?_ (Below.mono (by assumption) ?_)) | go_size))
  have hXq : Blk W2 Q #[.int .i64 0, .int .i64 0, .int .i64 0, .int .i64 0, .slice none 0 0] 25 := by rw [hW2, hQ]; exact Blk.new _ _ _
  have ha := hXa.lt
  have hb := hXb.lt
  rw [← hQ] at ha hb
  have ha0 := ha
  have HXA := hid (hXa.step hB2)
  have HXB := hid (hXb.step hB2)
  have HXQ := hid hXq
  have HBW := hid (Below.step' hB1 hB2)
  clear hXa hXb hXq hB1 hB2 hW2 hQ
  go_cut [7, 8, 9, 10] from 23 to 38 (fun s7 s8 s9 s10 wx => s8 = .int .i64 (joinE a b) ∧ s9 = .int .i64 (minusE a b) ∧ s10 = .bool (lessX a b) ∧ (∃ A' kk, Blk wx Q (cbox (joinX a b) A' kk) 25 ∧ Row wx wx.heap.size A' (dcells (joinX a b).cloud)) ∧ (∃ Am cm, s7 = .slice Am (minusX a b).length cm ∧ Row wx wx.heap.size Am (dcells (minusX a b))) ∧ Below Q W2 wx)
  case first =>
    by_cases h0 : twoI a b = 0
    · have q0 : (twoI a b == 0) = true := by simp [h0]
      have HMM := hid (minus_miss h0)
      obtain ⟨ca, fa, sa, na⟩ := HXA.out.all
      obtain ⟨cb, fb, sb, nb⟩ := HXB.out.all
      simp only [cbox] at ca cb
      have H0 := hid h0
      clear h0
      go_wp2_with fail
      refine (HRJ2.out _ HBW.out H0.out).mono ?_
      rintro e w3 ⟨A', kk, rfl, hrow3, hb3, hnew3⟩
      have hq3 := HXQ.out.step hb3
      obtain ⟨⟨cq0, cq1, cq2, cq3, cq4⟩, fq0, fq1, fq2, fq3, fq4⟩ := hq3.five
      obtain ⟨ca3, fa3, sa3, na3⟩ := (HXA.out.step hb3).all
      obtain ⟨cb3, fb3, sb3, nb3⟩ := (HXB.out.step hb3).all
      simp only [cbox] at ca3 cb3
      have naq : (w.heap.size = Q) = False := by simp; omega
      have nbq : (w.heap.size + 1 = Q) = False := by simp; omega
      obtain ⟨J, hJ⟩ : ∃ J, J = joinX a b := ⟨_, rfl⟩
      rw [← hJ] at hrow3 ⊢
      have HQ3 := hid (Blk.set5 hq3 (.int .i64 J.c0) (.int .i64 J.c1) (.int .i64 J.c2) (.int .i64 J.c3) (.slice A' J.cloud.length kk))
      have HROW3 := hid (Row.set5 hrow3 hnew3 HXQ.out.lt (.int .i64 J.c0) (.int .i64 J.c1) (.int .i64 J.c2) (.int .i64 J.c3) (.slice A' J.cloud.length kk))
      have hwq : w.heap.size ≤ Q := by omega
      have HB3 := hid (Below.set5 (Below.step' HBW.out hb3) hwq (.int .i64 J.c0) (.int .i64 J.c1) (.int .i64 J.c2) (.int .i64 J.c3) (.slice A' J.cloud.length kk))
      have hqs := HXQ.out.lt
      have HB3Q := hid (Below.set5 (hb3.mono (Nat.le_of_lt hqs)) (Nat.le_refl Q) (.int .i64 J.c0) (.int .i64 J.c1) (.int .i64 J.c2) (.int .i64 J.c3) (.slice A' J.cloud.length kk))
      have hqs3 := hq3.lt
      have HJ3 := hid hJ
      clear hJ hrow3 hb3 hnew3 hq3 ca fa sa na cb fb sb nb
      go_wp2_with fail
      refine (HRM.out _ HB3.out H0.out).mono ?_
      rintro e w4 ⟨v, rfl, hown4, hb4⟩
      obtain ⟨Am, cm, rfl⟩ := own_form hown4
      have HQ4 := hid (HQ3.out.step hb4)
      have HROW4 := hid (HROW3.out.step hb4)
      have HRM4 := hid (Row.of_own hown4)
      have HB4 := hid (HB3Q.out.trans (hb4.mono (by simp; omega)))
      clear hown4 hb4 cq0 cq1 cq2 cq3 cq4 fq0 fq1 fq2 fq3 fq4 ca3 fa3 sa3 na3 cb3 fb3 sb3 nb3
      obtain ⟨m1, m2, m3⟩ := HMM.out
      obtain ⟨R, hR⟩ : ∃ R, R = missR a b := ⟨_, rfl⟩
      rw [← hR] at m1 m2 m3 HRM4 ⊢
      by_cases h4 : 400 < R.length
      · rw [if_pos h4] at m1 m2
        have hq : decide ((400 : Int) < (R.length : Int)) = true := by simp; omega
        have hz : ((R.length : Int) == 0) = false := by simp only [beq_eq_false_iff_ne, ne_eq]; omega
        rw [decide_eq_false (show ¬ R.length = 0 by omega)] at m3
        have M1 := hid m1
        have M2 := hid m2
        have M3 := hid m3
        clear m1 m2 m3 hR
        go_wp2
        go_meet
        case rel => exact ⟨rfl, by rw [M2.out], by rw [M3.out], ⟨A', kk, by rw [← HJ3.out]; exact HQ4.out, by rw [← HJ3.out]; exact HROW4.out⟩, ⟨none, 0, by rw [M1.out]; rfl, by rw [M1.out]; exact Row.nil⟩, HB4.out⟩
      · rw [if_neg h4] at m1 m2
        have hq : decide ((400 : Int) < (R.length : Int)) = false := by simp; omega
        have M1 := hid m1
        have M2 := hid m2
        have M3 := hid m3
        clear m1 m2 m3 hR
        go_wp2
        go_meet
        case rel =>
          refine ⟨rfl, by rw [M2.out, H0.out], ?_, ⟨A', kk, by rw [← HJ3.out]; exact HQ4.out, by rw [← HJ3.out]; exact HROW4.out⟩, ⟨Am, cm, by rw [M1.out], by rw [M1.out]; exact HRM4.out⟩, HB4.out⟩
          rw [M3.out]
          congr 1
          rw [Bool.eq_iff_iff, beq_iff_eq, decide_eq_true_eq]
          omega
    · have q0 : (twoI a b == 0) = false := by simpa using h0
      obtain ⟨e1, e2, e3, e4, e5⟩ := bad_two h0
      have E1 := hid e1
      have E2 := hid e2
      have E3 := hid e3
      have E4 := hid e4
      have E5 := hid e5
      clear h0 e1 e2 e3 e4 e5
      go_wp2
      go_meet
      case rel => exact ⟨by rw [E2.out], by rw [E4.out], by rw [E5.out], ⟨none, 0, by rw [E1.out]; exact HXQ.out, by rw [E1.out]; exact Row.nil⟩, ⟨none, 0, by rw [E3.out]; rfl, by rw [E3.out]; exact Row.nil⟩, Below.refl _ _⟩
  case rest =>
    obtain ⟨rfl, rfl, rfl, ⟨A', kk, hq, hrow⟩, ⟨Am, cm, rfl, hrm⟩, hbx⟩ := hcut
    obtain ⟨wx, rfl⟩ : ∃ wx : World, wx = wc := ⟨_, rfl⟩
    have hQa : w.heap.size < Q := ha0
    have hxa := (HXA.out.thru hbx (by omega))
    have hxb := (HXB.out.thru hbx (by omega))
    obtain ⟨ca, fa, sa, na⟩ := hxa.all
    obtain ⟨cb, fb, sb, nb⟩ := hxb.all
    simp only [cbox] at ca cb
    have HBX := hid (HBW.out.trans (hbx.mono (by omega)))
    have HQX := hid hq
    have HROW := hid hrow
    have HRM2 := hid hrm
    have HXA3 := hid hxa
    have HXB3 := hid hxb
    clear hq hrow hrm hbx hxa hxb
    obtain ⟨J, hJ⟩ : ∃ J, J = joinX a b := ⟨_, rfl⟩
    obtain ⟨M, hM⟩ : ∃ M, M = minusX a b := ⟨_, rfl⟩
    rw [← hJ] at HQX HROW HJ hjl
    rw [← hM] at HRM2 HM hml ⊢
    clear hJ hM
    go_wp2_with fail
    refine (HJ.out _ HBX.out).mono ?_
    rintro e w3 ⟨A3, k3, rfl, hrow3, hb3, hnew3⟩
    have HB3 := hid (Below.step' HBX.out hb3)
    obtain ⟨ca3, fa3, sa3, na3⟩ := (HXA3.out.step hb3).all
    obtain ⟨cb3, fb3, sb3, nb3⟩ := (HXB3.out.step hb3).all
    simp only [cbox] at ca3 cb3
    have HQ3 := hid (HQX.out.step hb3)
    have HROW3 := hid (HROW.out.step hb3)
    have HRM3 := hid (HRM2.out.step hb3)
    have HJR := hid hrow3
    have HXA4 := hid (HXA3.out.step hb3)
    have HXB4 := hid (HXB3.out.step hb3)
    clear ca fa sa na cb fb sb nb hb3 hrow3 hnew3
    go_wp2_with fail
    refine (HL.out _ (HB3.out.alloc HB3.out.size _)).mono ?_
    rintro e w4 ⟨rfl, hb4⟩
    have hb4' : Below w3.heap.size w3 w4 := (by refine Below.step' ?_ hb4; (repeat' (first | (with_reducible exact Below.refl _ _) | (with_reducible assumption) | (with_reducible refine below_drewN ?_ _) | (with_reducible refine Below.drew ?_) | (with_reducible refine Below.alloc ?_ ?_ _) | (with_reducible refine Below.setCell ?_ ?_ _) | (refine Below.trans ?_ (Below.mono (by assumption) ?_)) | go_size)))
    have HB4 := hid (Below.step' HB3.out hb4')
    obtain ⟨ca4, fa4, sa4, na4⟩ := (HXA4.out.step hb4').all
    obtain ⟨cb4, fb4, sb4, nb4⟩ := (HXB4.out.step hb4').all
    simp only [cbox] at ca4 cb4
    have HQ4 := hid (HQ3.out.step hb4')
    have HROW4 := hid (HROW3.out.step hb4')
    have HRM4 := hid (HRM3.out.step hb4')
    have HJR4 := hid (HJR.out.step hb4')
    have HJB4 := hid (Blk.step (Blk.new w3 (cbox J A3 k3) 25) hb4)
    have HXA5 := hid (HXA4.out.step hb4')
    have HXB5 := hid (HXB4.out.step hb4')
    clear ca3 fa3 sa3 na3 cb3 fb3 sb3 nb3 hb4 hb4'
    go_wp2_with fail
    refine (HM.out _ HB4.out).mono ?_
    rintro e w5 ⟨v5, rfl, hown5, hb5⟩
    obtain ⟨A5, k5, rfl⟩ := own_form hown5
    have HB5 := hid (Below.step' HB4.out hb5)
    have hq5 := HQ4.out.step hb5
    have hj5 := HJB4.out.step hb5
    obtain ⟨cq5, fq5, sq5, nq5⟩ := hq5.all
    obtain ⟨cj5, fj5, sj5, nj5⟩ := hj5.all
    simp only [cbox] at cq5 cj5
    have hrow5 := HROW4.out.step hb5
    have hrm5 := HRM4.out.step hb5
    have hjr5 := HJR4.out.step hb5
    have HSM := hid (fun w8 (hb : Below w5.heap.size w5 w8) => same_ints J.c0 J.c1 J.c2 J.c3 J.c0 J.c1 J.c2 J.c3 J.cloud J.cloud A3 A' k3 kk w8 (hjr5.step hb) (hrow5.step hb) (by omega) (by omega))
    have HEQ := hid (fun w8 (hb : Below w5.heap.size w5 w8) => equal_any M M A5 Am k5 cm w8 ((Row.of_own hown5).step hb) (hrm5.step hb) (by omega) (by omega))
    rw [show sameB ⟨J.c0, J.c1, J.c2, J.c3, J.cloud⟩ ⟨J.c0, J.c1, J.c2, J.c3, J.cloud⟩ = true from (sameB_iff _ _).2 rfl] at HSM
    rw [show decide (M = M) = true from by simp] at HEQ
    clear ca4 fa4 sa4 na4 cb4 fb4 sb4 nb4 hb5 hown5 hrow5 hrm5 hjr5 hq5 hj5
    go_wp2_with fail
    refine (HSM.out _ (Below.refl _ _)).mono ?_
    rintro e w6 ⟨rfl, hb6⟩
    go_wp2_with fail
    refine (HEQ.out _ hb6).mono ?_
    rintro e w7 ⟨rfl, hb7⟩
    go_wp2
    go_ret
    exact ⟨rfl, Below.step' (Below.step' HB5.out hb6) hb7⟩
end Go.Proofs.Ytogegnikpjcpdaa
