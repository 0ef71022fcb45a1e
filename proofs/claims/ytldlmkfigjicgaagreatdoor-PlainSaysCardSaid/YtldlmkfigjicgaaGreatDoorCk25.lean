/- PnS, PnU, PlR, RkD, PnV -/
import Derived.Test.YtldlmkfigjicgaaGreatDoorCk24
import Derived.Maps.RangeWalk
import Derived.Test.YtldlmkfigjicgaaGreatDoorCk19
import Derived.Test.YtldlmkfigjicgaaGreatDoorCk22
import Derived.Test.YtldlmkfigjicgaaGreatDoorCk11
/- plain.step. -/
namespace Go.Proofs.YtldlmkfigjicgaaGreatDoor
set_option linter.unusedVariables false
set_option linter.unusedSimpArgs false
open Go.ChangeShapes Go.WideShapes Go.ChangeAt Go.RowKit

/-- Items, in whatever order, wherever their rows lie. -/
def PermPost (S : List It) (w : World) (e : Ending) (w' : World) : Prop :=
  ∃ (A : Option Addr) (k : Nat) (M : List IR), e = .returned (.slice A M.length k) ∧ (its M).Perm S ∧ RowI w' w'.heap.size A M ∧ Below w.heap.size w w'
theorem permPost_mk {S : List It} {w w' : World} {A : Option Addr} {k : Nat} {M : List IR} (h1 : (its M).Perm S) (h2 : RowI w' w'.heap.size A M) (h3 : Below w.heap.size w w') : PermPost S w (.returned (.slice A M.length k)) w' := ⟨A, k, M, rfl, h1, h2, h3⟩

/-! distinct -/
def distM (M : List IR) : List IR := (M.filter (fun x => decide (0 < x.n))).map (fun x => ⟨x.row, x.A, x.k, 1⟩)
theorem distM_its (M : List IR) : its (distM M) = distL (its M) := by
  unfold distM distL
  show List.map IR.it _ = _
  rw [List.filter_map, List.map_map, List.map_map]; rfl
theorem distM_rows {w : World} {B : Nat} {M : List IR} (h : RowsAt w B M) : RowsAt w B (distM M) := fun x hx => by
  obtain ⟨y, hy, rfl⟩ := List.mem_map.1 hx
  exact h y (List.mem_filter.1 hy).1
theorem distM_snoc (M : List IR) (i : Nat) (hi : i < M.length) : distM (M.take (i + 1)) = distM (M.take i) ++ (if 0 < M[i].n then [⟨M[i].row, M[i].A, M[i].k, 1⟩] else []) := by
  unfold distM
  rw [List.take_succ_eq_append_getElem hi, List.filter_append, List.map_append, List.filter_cons, List.filter_nil]
  by_cases q : 0 < M[i].n
  · rw [if_pos (decide_eq_true q), if_pos q]; rfl
  · rw [if_neg (by simpa using q), if_neg q]; rfl
theorem distM_len (M : List IR) (i : Nat) : (distM (M.take i)).length ≤ i := by
  unfold distM
  rw [List.length_map]
  exact Nat.le_trans (List.length_filter_le _ _) (List.length_take_le _ _)

/-! groups, in whatever order -/
theorem filter_more {l : List Int} (hn : l.Nodup) {x : Int} (hx : x ∈ l) {p q : Int → Bool} (hp : p x = false) (hq : ∀ y, q y = (p y || decide (y = x))) : (l.filter q).Perm (l.filter p ++ [x]) := by
  induction l with
  | nil => simp at hx
  | cons y l ih =>
    obtain ⟨h1, h2⟩ := List.nodup_cons.1 hn
    by_cases e : y = x
    · subst e
      have e1 : l.filter q = l.filter p := List.filter_congr fun z hz => by
        rw [hq]
        have : z ≠ y := fun e => h1 (e ▸ hz)
        simp [this]
      rw [List.filter_cons_of_pos (by rw [hq]; simp), List.filter_cons_of_neg (by simp [hp]), e1]
      exact (List.perm_append_singleton _ _).symm
    · have hx' : x ∈ l := (List.mem_cons.1 hx).resolve_left (fun e2 => e e2.symm)
      have hqy : q y = p y := by rw [hq]; simp [e]
      cases hpy : p y
      · rw [List.filter_cons_of_neg (by rw [hqy, hpy]; simp), List.filter_cons_of_neg (by simp [hpy])]
        exact ih h2 hx'
      · rw [List.filter_cons_of_pos (by rw [hqy, hpy]), List.filter_cons_of_pos hpy]
        exact (ih h2 hx').cons y
def doneG (s : St) (A : List It) (left : Lit → Bool) : List It := ((keysG s A).filter (fun k => !left (kI k))).flatMap (fun k => toldL s k (grpN s A k) (grpS s A k))
theorem flatMap_perm {f : Int → List It} {a b : List Int} (h : a.Perm b) : (a.flatMap f).Perm (b.flatMap f) := by
  induction h with
  | nil => exact List.Perm.refl _
  | cons x _ ih => rw [List.flatMap_cons, List.flatMap_cons]; exact ih.append_left _
  | swap x y l =>
    simp only [List.flatMap_cons]
    rw [← List.append_assoc, ← List.append_assoc]
    exact List.perm_append_comm.append_right _
  | trans _ _ h1 h2 => exact h1.trans h2
theorem doneG_step (s : St) (A : List It) {left : Lit → Bool} {k : Int} (hk : k ∈ keysG s A) (hl : left (kI k) = true) : (doneG s A (fun z => left z && !z.sameKey (kI k))).Perm (doneG s A left ++ toldL s k (grpN s A k) (grpS s A k)) := by
  unfold doneG
  refine (flatMap_perm (filter_more (dedupI_nodup _) hk (p := fun k => !left (kI k)) (by simp [hl]) fun y => ?_)).trans ?_
  · by_cases e : y = k
    · subst e
      have : (kI y).sameKey (kI y) = true := WideAt.sameKey_self (isKeyI y)
      simp [this]
    · have : (kI y).sameKey (kI k) = false := Maps.sameKey_ne (kI_ne e)
      simp [this, e]
  · rw [List.flatMap_append]
    simp only [List.flatMap_cons, List.flatMap_nil, List.append_nil]
    exact List.Perm.refl _
theorem doneG_start (s : St) (A : List It) {D : DataW Unit} (h : GMap s A D) : doneG s A (Maps.has D) = [] := by
  unfold doneG
  have : (keysG s A).filter (fun k => !Maps.has D (kI k)) = [] := List.filter_eq_nil_iff.2 fun k hk => by
    rw [(h.2 k).1]
    have := (dedupI_mem _ _).1 hk
    simp [this]
  rw [this]; rfl
theorem doneG_end (s : St) (A : List It) {left : Lit → Bool} (h : ∀ kl, left kl = false) : doneG s A left = groupL s A := by
  unfold doneG groupL
  congr 1
  exact List.filter_eq_self.2 fun k hk => by simp [h]
theorem toldL_len (s : St) (k n m : Int) : (toldL s k n m).length ≤ 1 := by unfold toldL; split <;> simp
theorem flatMap_len1 {f : Int → List It} (hf : ∀ k, (f k).length ≤ 1) : ∀ l : List Int, (l.flatMap f).length ≤ l.length
  | [] => Nat.le_refl _
  | x :: l => by
    rw [List.flatMap_cons, List.length_append, List.length_cons]
    have := flatMap_len1 hf l
    have := hf x
    omega
theorem doneG_len (s : St) (A : List It) (left : Lit → Bool) : (doneG s A left).length ≤ A.length := by
  refine Nat.le_trans (flatMap_len1 (fun k => toldL_len _ _ _ _) _) (Nat.le_trans (List.length_filter_le _ _) (Nat.le_trans (dedupI_len _) (by simp)))

theorem RowsNew.app {w : World} {lo : Nat} {v : Value} {S M : List IR} (h : RowsNew w lo v S) (h' : RowsNew w lo v M) : RowsNew w lo v (S ++ M) := fun x hx => by
  rcases List.mem_append.1 hx with q | q
  · exact h x q
  · exact h' x q
theorem invK_int : ∀ key kl, keyOf Tryz.prog 3 key = some kl → ∃ x : Int, key = Value.int .i64 x := fun key kl h => by
  obtain ⟨x, rfl, -⟩ := Maps.keyOf_int_inv Tryz.underlying3 h
  exact ⟨x, rfl⟩
theorem invV_grp : ∀ v y, grpElem v = some y → ∃ c : Int × Int, v = grpv c.1 c.2 := fun v y h => by
  obtain ⟨n, m, rfl, -⟩ := grpElem_shape h
  exact ⟨(n, m), rfl⟩

/-- What a step asks of its lists. -/
def StepOk (s : St) (A B : List It) : Prop := LinOk s A B ∧ (s.kind = 4 → JoinOk s A B) ∧ (s.kind = 8 ∨ s.kind = 9 → GrpOk s A)

set_option maxHeartbeats 1000000 in
set_option maxRecDepth 100000 in
theorem step_any (x : SR) (M1 M2 : List IR) (A1 A2 : Option Addr) (c1 c2 : Nat) (w : World) (hs : Row w w.heap.size x.A (icells' x.st.list)) (h1 : RowI w w.heap.size A1 M1) (l1 : M1.length ≤ 800) (h2 : RowI w w.heap.size A2 M2) (l2 : M2.length ≤ 800) (hok : StepOk x.st (its M1) (its M2)) :
    Calls Tryz.prog 55 #[.agg x.cells.toArray, .slice A1 M1.length c1, .slice A2 M2.length c2] w (PermPost (stL x.st (its M1) (its M2)) w) := by
  obtain ⟨⟨sk, sa, sb, sc, so, sv, sl⟩, sA, sK⟩ := x
  simp only at hs hok
  obtain ⟨hk1, hk4, hk8⟩ := hok
  have HLI := hid (fun w1 (hb : Below w.heap.size w w1) => linear_any ⟨⟨sk, sa, sb, sc, so, sv, sl⟩, sA, sK⟩ M1 M2 A1 A2 c1 c2 w1 (hs.step hb) (h1.step hb) l1 (h2.step hb) l2 hk1)
  have HJO := hid (fun (h4 : sk = 4) w1 (hb : Below w.heap.size w w1) => join_any ⟨⟨sk, sa, sb, sc, so, sv, sl⟩, sA, sK⟩ M1 M2 A1 A2 c1 c2 w1 (h1.step hb) l1 (h2.step hb) l2 (hk4 h4))
  have HGR := hid (fun (h8 : sk = 8 ∨ sk = 9) w1 (hb : Below w.heap.size w w1) => groups_any ⟨⟨sk, sa, sb, sc, so, sv, sl⟩, sA, sK⟩ M1 A1 c1 w1 (h1.step hb) l1 (hk8 h8))
  have HTO := hid (fun key n m w1 => told_any ⟨⟨sk, sa, sb, sc, so, sv, sl⟩, sA, sK⟩ key n m w1)
  have HR1 := hid h1
  have HX := hid (show stL ⟨sk, sa, sb, sc, so, sv, sl⟩ (its M1) (its M2) = if linB ⟨sk, sa, sb, sc, so, sv, sl⟩ = true then linL ⟨sk, sa, sb, sc, so, sv, sl⟩ (its M1) (its M2) else if sk = 4 then joinL ⟨sk, sa, sb, sc, so, sv, sl⟩ (its M1) (its M2) else if sk = 7 then distL (its M1) else if sk = 8 ∨ sk = 9 then groupL ⟨sk, sa, sb, sc, so, sv, sl⟩ (its M1) else [] from rfl)
  simp only [SR.cells] at HLI HJO HGR HTO ⊢
  obtain ⟨s, hss⟩ : ∃ s : St, s = ⟨sk, sa, sb, sc, so, sv, sl⟩ := ⟨_, rfl⟩
  rw [← hss] at HX HLI HJO HGR HTO ⊢
  obtain ⟨X, hX⟩ : ∃ X, X = stL s (its M1) (its M2) := ⟨_, rfl⟩
  rw [← hX] at HX ⊢
  clear hX hss hs h1 h2 hk1 hk4 hk8
  obtain ⟨lb, hlb⟩ : ∃ b, b = linB s := ⟨_, rfl⟩
  rw [← hlb] at HLI HX
  clear hlb
  obtain ⟨W1, hW1⟩ : ∃ W1 : World, W1 = w.alloc (.cells #[.int .i64 sk, .int .i64 sa, .int .i64 sb, .int .i64 sc, .int .i64 so, .int .i64 sv, .slice sA sl.length sK] 89) := ⟨_, rfl⟩
  have HXS := hid (show Blk W1 w.heap.size #[.int .i64 sk, .int .i64 sa, .int .i64 sb, .int .i64 sc, .int .i64 so, .int .i64 sv, .slice sA sl.length sK] 89 by rw [hW1]; exact Blk.new _ _ _)
  have HB1 := hid (show Below w.heap.size w W1 by rw [hW1]; (repeat' (first | (with_reducible exact Below.refl _ _) | (with_reducible assumption) | (with_reducible refine below_drewN ?_ _) | (with_reducible refine Below.drew ?_) | (with_reducible refine Below.alloc ?_ ?_ _) | (with_reducible refine Below.setCell ?_ ?_ _) | (refine Below.trans ?_ (Below.mono (by assumption) ?_)) | go_size)))
  go_enter Tryz.func55, Tryz.ntmps55
  go_upto_region 1 with fail
  rw [← hW1]
  clear hW1
  obtain ⟨cHXS, fHXS, sHXS, nHXS⟩ := HXS.out.all
  try simp only [cbox] at cHXS
  go_wp2_with fail
  -- STOP-a
  refine (HLI.out _ HB1.out).mono ?_
  rintro e w2 ⟨A3, k3, M3, rfl, hi3, hr3, hb3⟩
  clear cHXS fHXS sHXS nHXS
  replace HXS := hid (HXS.out.step hb3)
  have HB := hid (Below.step' HB1.out hb3)
  have HI3 := hid hi3
  have HR3 := hid hr3
  clear hi3 hr3 hb3 HB1 HLI
  cases lb
  rotate_left
  · have HE := hid (show X = linL s (its M1) (its M2) by rw [HX.out, if_pos rfl])
    go_wp2_with fail
    go_ret
    exact permPost_mk (by rw [HI3.out, HE.out]) HR3.out HB.out
  replace HX : Hid (X = if sk = 4 then joinL s (its M1) (its M2) else if sk = 7 then distL (its M1) else if sk = 8 ∨ sk = 9 then groupL s (its M1) else []) := hid (by rw [HX.out, if_neg (by simp)])
  clear HI3 HR3
  by_cases k4 : sk = 4
  · have t4 : (sk == 4) = true := by simp [k4]
    have HE := hid (show X = joinL s (its M1) (its M2) by rw [HX.out, if_pos k4])
    replace HJO := hid (HJO.out k4)
    clear k4
    obtain ⟨cHXS, fHXS, sHXS, nHXS⟩ := HXS.out.all
    try simp only [cbox] at cHXS
    go_wp2_with fail
    -- STOP-b
    refine (HJO.out _ HB.out).mono ?_
    rintro e w3 ⟨A4, c4, M4, rfl, hi4, hr4, hb4⟩
    have HI4 := hid hi4
    have HR4 := hid hr4
    have HB4 := hid (Below.step' HB.out hb4)
    clear hi4 hr4 hb4
    go_wp2_with fail
    go_ret
    exact permPost_mk (by rw [HI4.out, HE.out]) HR4.out HB4.out
  have t4 : (sk == 4) = false := by simp [k4]
  by_cases k7 : sk = 7
  · have t7 : (sk == 7) = true := by simp [k7]
    have HE := hid (show X = distL (its M1) by rw [HX.out, if_neg k4, if_pos k7])
    have HDI := hid (distM_its M1)
    clear k4 k7 HJO HGR HTO HX
    obtain ⟨cHXS, fHXS, sHXS, nHXS⟩ := HXS.out.all
    try simp only [cbox] at cHXS
    go_wp2_with fail
    clear cHXS fHXS sHXS nHXS
    -- STOP-c
    go_loopw [9, 35] (fun s9 s35 wr => ∃ i : Nat, i ≤ M1.length ∧ s35 = .int .i64 i ∧ Hid (wr.ownsRow w2.heap.size 67 2 s9 (distM (M1.take i)).length (rcells (distM (M1.take i)))) ∧ Hid (Below w2.heap.size w2 wr)) (fun _ s35 _ => M1.length - (intOf s35).toNat)
    case atStart => exact ⟨0, by omega, rfl, hid (by simpa [distM] using World.ownsRow_nil _ _ _ _), hid (Below.refl _ _)⟩
    case round =>
      obtain ⟨i, hi, rfl, HOWN, HBO⟩ := hrel
      obtain ⟨A5, c5, rfl⟩ := own_formS HOWN.out
      have hso := HBO.out.size
      have HBW := hid (Below.step' HB.out HBO.out)
      have hOl := distM_len M1 i
      by_cases hlt : i < M1.length
      · obtain ⟨b, off, rfl, hb, e0, e1⟩ := (HR1.out.1.step HBW.out).it hlt
        have HFI := hid (distM_snoc M1 i hlt)
        generalize M1[i] = x at *
        obtain ⟨xr, xA, xk, xn⟩ := x
        simp only at e0 e1 HFI
        have hneb : (b = wr.heap.size) = False := by simp; omega
        obtain ⟨O, hO⟩ : ∃ O, O = distM (M1.take i) := ⟨_, rfl⟩
        rw [← hO] at HOWN HFI hOl ⊢
        clear hO
        by_cases qn : 0 < xn
        · have tq : ((0 : Int) < xn) = True := eq_true qn
          have HFJ := hid (show distM (M1.take (i + 1)) = O ++ [⟨xr, xA, xk, 1⟩] by rw [HFI.out, if_pos qn])
          clear qn
          go_wp2_with (at_builtin; refine wpList_append_row elem_item rfl _ _ rfl w2.heap.size _ _ _ rfl ((HOWN.out.alloc _).alloc _) (some ⟨wr.heap.size + 1, 0, none⟩) 1 1 (wr.heap.size + 1 + 1) [.slice xA xr.length xk, .int .i64 1] rfl rfl (by exact Row.new' (wr.alloc _) _ _ (by simp) rfl (Nat.lt_succ_self _)) (two_one _ _ _ _) ?_ ?_ ?_ ?_; rotate_right; intro v7 w7 hown7 hg7 hif7; rotate_left; (simp only [maxLen]; omega); (omega); (simp; omega))
          have HOW7 := hid hown7
          have HG7 := hid hg7
          clear hown7 hg7 hif7
          go_roundw
          case rel =>
            refine ⟨i + 1, by omega, by go_num, hid ?_, hid (Below.grown (alloc_below (alloc_below HBO.out _) _) HG7.out (by simp; omega) (fun g e => (HOWN.out.lt g e).1))⟩
            rw [HFJ.out, rcells_app, List.length_append]
            simpa using HOW7.out
          case measure => simp [intOf]; omega
        · have tq : ((0 : Int) < xn) = False := eq_false qn
          have HFJ := hid (show distM (M1.take (i + 1)) = O by rw [HFI.out, if_neg qn, List.append_nil])
          clear qn
          go_wp2_with fail
          go_roundw
          case rel => exact ⟨i + 1, by omega, by go_num, hid (by rw [HFJ.out]; exact HOWN.out.alloc _), hid (alloc_below HBO.out _)⟩
          case measure => simp [intOf]; omega
      · have hik : i = M1.length := by omega
        subst hik
        rw [List.take_length] at HOWN ⊢
        clear hOl
        go_wp2_with fail
        go_ret
        exact permPost_mk (by rw [HDI.out, HE.out]) ⟨Row.of_ownS HOWN.out, distM_rows (HR1.out.2.step HBW.out)⟩ HBW.out
  have t7 : (sk == 7) = false := by simp [k7]
  by_cases k8 : sk = 8 ∨ sk = 9
  rotate_left
  · have t8 : (sk == 8) = false := by simp; omega
    have t9 : (sk == 9) = false := by simp; omega
    have HE := hid (show X = [] by rw [HX.out, if_neg k4, if_neg k7, if_neg k8])
    clear k4 k7 k8
    obtain ⟨cHXS, fHXS, sHXS, nHXS⟩ := HXS.out.all
    try simp only [cbox] at cHXS
    go_wp2_with fail
    go_ret
    exact ⟨none, 0, [], rfl, by rw [HE.out]; exact List.Perm.refl _, RowI.nil, HB.out⟩
  have HE := hid (show X = groupL s (its M1) by rw [HX.out, if_neg k4, if_neg k7, if_pos k8])
  replace HGR := hid (HGR.out k8)
  have k89 := k8
  clear k4 k7 HX HJO
  have hw1w := HXS.out.lt
  have tt : ((sk == 8) = true) ∨ ((sk == 8) = false ∧ (sk == 9) = true) := by
    rcases k89 with e | e
    · exact .inl (by simp [e])
    · exact .inr ⟨by simp [e], by simp [e]⟩
  clear k8 k89
  rcases tt with t8 | ⟨t8, t9⟩
  all_goals
    obtain ⟨cHXS, fHXS, sHXS, nHXS⟩ := HXS.out.all
    try simp only [cbox] at cHXS
    go_wp2_with fail
    -- STOP-d
    refine (HGR.out _ HB.out).mono ?_
    rintro e w3 ⟨mb, mn, D, rfl, hom, hgm, hmn, hmb, hb3⟩
    clear cHXS fHXS sHXS nHXS
    replace HXS := hid (HXS.out.step hb3)
    replace HB := hid (Below.step' HB.out hb3)
    have HOM := hid hom
    have HGM := hid hgm
    have hsb := hb3.size
    have hmlt := hom.lt
    clear hom hgm hb3 HGR
    go_wp2_with (at_range; refine wpList_range_own _ rfl _ 95 rfl 3 122 int_law Tryz.underlying95 grpElem mb mn D rfl HOM.out ?_; intro w4 hrg0 hg0 hs0)
    go_frame
    -- STOP-e
    have HRG0 := hid hrg0
    have HB0 := hid ((Below.refl w3.heap.size w3).grown hg0 (Nat.le_refl _) (fun g e => by cases e))
    clear hrg0 hg0 hs0
    go_loopw [9] (fun s9 wr => ∃ (left : Lit → Bool) (cnt : Nat) (S : List IR), Hid (wr.ranges Tryz.prog 3 grpElem mb w3.heap.size mn D left cnt) ∧ Hid ((its S).Perm (doneG s (its M1) left)) ∧ Hid (wr.ownsRow (w3.heap.size + 1) 67 2 s9 S.length (rcells S)) ∧ Hid (RowsNew wr (w3.heap.size + 1) s9 S) ∧ Hid (Below w3.heap.size w3 wr)) (fun _ wr => wr.rangeLeft mb w3.heap.size)
    case atStart => exact ⟨_, _, [], HRG0, hid (by rw [doneG_start s _ HGM.out]; exact List.Perm.refl _), hid (World.ownsRow_nil _ _ _ _), hid (RowsNew.nil _ _ _), HB0⟩
    case round =>
      clear HRG0 HB0
      obtain ⟨left, cnt, S, HRG, HPE, HOWN, HNEW, HBO⟩ := hrel
      obtain ⟨A9, c9, rfl⟩ := own_formS HOWN.out
      have hrlt := HRG.out.lt
      have hSl : S.length ≤ 800 := by
        have := HPE.out.length_eq
        rw [its_len] at this
        have := doneG_len s (its M1) left
        rw [its_len] at this
        omega
      go_wp2_with (at_next; refine wpList_next_ranges _ rfl _ rfl 3 int_law grpElem (Value.int .i64) (fun c : Int × Int => grpv c.1 c.2) invK_int invV_grp mb w3.heap.size mn D left cnt rfl HRG.out ?_ ?_)
      · intro hc0 hl0
        have HPF := hid (show (its S).Perm X by rw [HE.out, ← doneG_end s (its M1) hl0]; exact HPE.out)
        clear hc0 hl0
        go_wp2_with fail
        -- STOP-f
        go_ret
        exact permPost_mk HPF.out ⟨Row.of_ownS HOWN.out, HNEW.out.rows⟩ (Below.step' HB.out HBO.out)
      · intro x n m kl y1 y2 w5 cnt5 hkey hlk hv hat hrg1 hlt hg1 hs1 hen
        obtain ⟨x', ex, rfl, -⟩ := Maps.keyOf_int_inv Tryz.underlying3 hkey
        injection ex with _ ex
        subst ex
        have hy : y1 = grpD n m := by
          rw [grpElem_mk] at hv
          injection hv with hv
          injection hv with hv _
          exact hv.symm
        rw [hy] at hat
        have hhas := Maps.has_true_of_atKey hat
        obtain ⟨g1, g2⟩ := HGM.out.2 x
        rw [hhas] at g1
        have hkm : x ∈ colsG s (its M1) := of_decide_eq_true g1.symm
        obtain ⟨rfl, rfl⟩ := grpD_inj ((hat (grpD 0 0)).symm.trans (g2 hkm _))
        have HPS := hid (doneG_step s (its M1) ((dedupI_mem _ _).2 hkm) hlk)
        have HRG1 := hid hrg1
        have HG1 := hid hg1
        have hr5 : w3.heap.size < w5.heap.size := by omega
        have HXS5 := hid ((HXS.out.step HBO.out).grown hg1 (fun e => by injection e with e; have := HXS.out.lt; omega))
        have HO5 := hid (own_ne_grown HOWN.out hg1 (fun b hb e => by injection e with e; have := (HOWN.out.lt b hb).1; omega))
        have HN5 := hid (HNEW.out.grownNe hg1 (fun x hx b off q e e2 => by injection e2 with e2; have := (HNEW.out x hx).2.1 b off q e; omega))
        have HB5 := hid (HBO.out.grown hg1 HBO.out.size (fun g e => by injection e with e; omega))
        have hlt5 := hlt
        have hsz5 : w5.heap.size = wr.heap.size := hs1
        have HOL := hid (fun q (e : (Value.slice A9 S.length c9).ownBlock = some q) => HOWN.out.lt q e)
        have HGNE := hid (fun key n m w1 => HTO.out key n m w1)
        simp only [grpv] at HGNE hen
        obtain ⟨n, hn⟩ : ∃ n, n = grpN s (its M1) x := ⟨_, rfl⟩
        obtain ⟨m, hm⟩ : ∃ m, m = grpS s (its M1) x := ⟨_, rfl⟩
        rw [← hn, ← hm] at HPS hen ⊢
        have HHEN := hid hs1
        clear hn hm g1 g2 hkm hhas hat hy hv hkey hrg1 hg1 hs1 hlk hsz5
        obtain ⟨cHXS5, fHXS5, sHXS5, nHXS5⟩ := HXS5.out.all
        try simp only [cbox] at cHXS5
        go_wp2_with fail
        -- STOP-g
        clear cHXS5 fHXS5 sHXS5 nHXS5
        have HB6 := hid (alloc_below (Below.refl w5.heap.size w5) (.cells #[.int .i64 n, .int .i64 m] 122))
        obtain ⟨W6, hW6⟩ : ∃ W6 : World, W6 = w5.alloc (.cells #[.int .i64 n, .int .i64 m] 122) := ⟨_, rfl⟩
        rw [← hW6] at HB6 ⊢
        clear hW6 hen
        have hs6 := HB6.out.size
        refine (HGNE.out x n m W6).mono ?_
        rintro e w7 ⟨A7, k7, M7, rfl, hi7, ho7, hn7, hb7⟩
        have HB7 := hid (Below.step' HB6.out hb7)
        have hs7 := hb7.size
        have HO7 := hid (own_laterS HO5.out HB7.out)
        have HN7 := hid (HN5.out.step HB7.out)
        have HI7 := hid hi7
        have HR7 := hid (Row.of_ownS ho7)
        have HM7 := hid hn7
        have HRG7 := hid (HRG1.out.kept (grown_of_below HB7.out) (by simp) (by simp))
        have hl7 : M7.length ≤ 1 := by rw [← its_len, hi7]; exact toldL_len _ _ _ _
        have hrl := rcells_len M7
        clear hi7 ho7 hn7 hb7
        go_wp2_with (at_builtin; refine wpList_append_row elem_item rfl _ _ rfl (w3.heap.size + 1) (.slice A9 S.length c9) S.length (rcells S) rfl HO7.out A7 M7.length k7 w7.heap.size (rcells M7) rfl hrl HR7.out (rcells_one M7) ?_ ?_ ?_ ?_; rotate_right; intro v8 w8 hown8 hg8 hif8; rotate_left; (simp only [maxLen]; omega); (omega); (omega))
        -- STOP-h
        have HO8 := hid hown8
        have HG8 := hid hg8
        have HIF := hid hif8
        clear hown8 hg8 hif8
        have HRG8 := hid (HRG7.out.kept HG8.out (fun e => by have := (HOL.out _ e.symm).1; omega) (fun e => by have := (HOL.out _ e.symm).1; omega))
        go_roundw
        case rel =>
          refine ⟨_, cnt5, S ++ M7, HRG8, hid ?_, hid ?_, hid ?_, hid (((HB5.out.trans (HB7.out.mono (by omega)))).grown HG8.out (by omega) (fun q e => by have := (HOL.out _ e).1; omega))⟩
          · rw [its, List.map_append, show M7.map IR.it = its M7 from rfl, HI7.out]
            exact (HPE.out.append_right _).trans HPS.out.symm
          · rw [rcells_app, List.length_append]
            exact HO8.out
          · refine (HN7.out.grown HG8.out HIF.out).app fun y hy => ?_
            obtain ⟨q1, q2, q3, q4⟩ := HM7.out y hy
            have hne : ∀ b off q, y.A = some ⟨b, off, q⟩ → some b ≠ (Value.slice A9 S.length c9).ownBlock := fun b off q e e2 => by
              have h1 := q2 b off q e
              have h2 := (HOL.out b e2.symm).2
              have := HHEN.out
              omega
            refine ⟨(q1.grown_ne (Nat.le_refl _) HG8.out hne).more HG8.out.size, newAt_le q2 (by omega), fun b off q e => ⟨?_, Nat.lt_of_lt_of_le (q3 b off q e).2 HG8.out.size⟩, q4⟩
            rcases HIF.out with h | h
            · rw [h]; exact hne b off q e
            · rw [h]; intro e2; injection e2 with e2; have := (q3 b off q e).2; omega
        case measure => rw [HRG8.out.left_eq, HRG.out.left_eq]; exact hlt5
end Go.Proofs.YtldlmkfigjicgaaGreatDoor
/- plain.Bases. -/
namespace Go.Proofs.YtldlmkfigjicgaaGreatDoor
set_option linter.unusedVariables false
set_option linter.unusedSimpArgs false
open Go.ChangeShapes Go.WideShapes Go.ChangeAt Go.RowKit

set_option maxHeartbeats 1000000 in
set_option maxRecDepth 100000 in
theorem bases_any (L : List SR) (M1 M2 : List IR) (A0 A1 A2 : Option Addr) (c0 c1 c2 : Nat) (w : World) (h0 : RowS w w.heap.size A0 L) (l0 : L.length ≤ 9223372036854775807) (h1 : RowI w w.heap.size A1 M1) (l1 : M1.length ≤ 9223372036854775807) (h2 : RowI w w.heap.size A2 M2) (l2 : M2.length ≤ 9223372036854775807) :
    Calls Tryz.prog 54 #[.slice A0 L.length c0, .slice A1 M1.length c1, .slice A2 M2.length c2] w fun e w' => e = .returned (.int .i64 (basesE (sts L) (its M1) (its M2))) ∧ Below w.heap.size w w' := by
  have HQ := hid (qcheck_any L A0 c0 w h0 l0)
  have HK1 := hid (fun w1 (hb : Below w.heap.size w w1) => zcheck_any M1 A1 c1 w1 (h1.step hb) l1)
  have HK2 := hid (fun w1 (hb : Below w.heap.size w w1) => zcheck_any M2 A2 c2 w1 (h2.step hb) l2)
  have HE := hid (show basesE (sts L) (its M1) (its M2) = if queryE (sts L) ≠ 0 then queryE (sts L) else if setI (its M1) ≠ 0 then setI (its M1) else if setI (its M2) ≠ 0 then setI (its M2) else if (its M1 ++ its M2).any wideB = true then 5 else 0 from rfl)
  have HL1 : Hid (setI (its M1) = 0 → M1.length ≤ 400) := hid fun h => len_set h
  have HL2 : Hid (setI (its M2) = 0 → M2.length ≤ 400) := hid fun h => len_set h
  have HR1 := hid h1
  have HR2 := hid h2
  have HCL := hid (fun (h : M1.length ≤ 400) w1 (hb : Below w.heap.size w w1) => cloneIt_any M1 A1 c1 w1 (h1.1.step hb) (by omega))
  obtain ⟨E, hE⟩ : ∃ q, q = basesE (sts L) (its M1) (its M2) := ⟨_, rfl⟩
  obtain ⟨EQ, hEQ⟩ : ∃ q, q = queryE (sts L) := ⟨_, rfl⟩
  obtain ⟨E1, hE1⟩ : ∃ q, q = setI (its M1) := ⟨_, rfl⟩
  obtain ⟨E2, hE2⟩ : ∃ q, q = setI (its M2) := ⟨_, rfl⟩
  rw [← hE, ← hEQ, ← hE1, ← hE2] at HE
  rw [← hE]
  rw [← hEQ] at HQ
  rw [← hE1] at HK1 HL1
  rw [← hE2] at HK2 HL2
  clear hE hEQ hE1 hE2 h0 h1 h2
  go_enter Tryz.func54, Tryz.ntmps54
  go_wp2_with fail
  refine HQ.out.mono ?_
  rintro e w1 ⟨rfl, hb1⟩
  have HBW := hid hb1
  clear hb1 HQ
  by_cases q0 : EQ = 0
  rotate_left
  · have t1 : (EQ != 0) = true := by simpa using q0
    have HE1 := hid (show E = EQ by rw [HE.out, if_pos q0])
    clear q0
    go_wp2_with fail
    go_ret
    exact ⟨ret_int HE1.out.symm, HBW.out⟩
  subst q0
  replace HE : Hid (E = if E1 ≠ 0 then E1 else if E2 ≠ 0 then E2 else if (its M1 ++ its M2).any wideB = true then 5 else 0) := hid (by rw [HE.out, if_neg (by simp)])
  have HXA := hid (Blk.new w1 #[.slice A1 M1.length c1, .slice A2 M2.length c2] 22)
  have HBA := hid (alloc_below HBW.out (.cells #[.slice A1 M1.length c1, .slice A2 M2.length c2] 22))
  go_wp2_with fail
  refine wp_loop_rounds 3 ?_
  rw [rounds_succ]
  go_wp2_with fail
  -- STOP-a
  refine (HK1.out _ HBA.out).mono ?_
  rintro e w2 ⟨rfl, hb2⟩
  replace HXA := hid (HXA.out.step hb2)
  replace HBW := hid (Below.step' HBA.out hb2)
  clear hb2 HBA HK1
  by_cases q1 : E1 = 0
  rotate_left
  · have t1 : (E1 != 0) = true := by simpa using q1
    have HE1 := hid (show E = E1 by rw [HE.out, if_pos q1])
    clear q1
    go_wp2_with fail
    go_ret
    exact ⟨ret_int HE1.out.symm, HBW.out⟩
  subst q1
  replace HE : Hid (E = if E2 ≠ 0 then E2 else if (its M1 ++ its M2).any wideB = true then 5 else 0) := hid (by rw [HE.out, if_neg (by simp)])
  have hM1 := HL1.out (by first | rfl | trivial)
  obtain ⟨cHXA, fHXA, sHXA, nHXA⟩ := HXA.out.all
  try simp only [cbox] at cHXA
  go_wp2_with fail
  rw [rounds_succ]
  go_wp2_with fail
  -- STOP-b
  refine (HK2.out _ HBW.out).mono ?_
  rintro e w3 ⟨rfl, hb3⟩
  clear cHXA fHXA sHXA nHXA
  replace HBW := hid (Below.step' HBW.out hb3)
  clear hb3 HK2 HXA
  by_cases q2 : E2 = 0
  rotate_left
  · have t1 : (E2 != 0) = true := by simpa using q2
    have HE1 := hid (show E = E2 by rw [HE.out, if_pos q2])
    clear q2
    go_wp2_with fail
    go_ret
    exact ⟨ret_int HE1.out.symm, HBW.out⟩
  subst q2
  replace HE : Hid (E = if (its M1 ++ its M2).any wideB = true then 5 else 0) := hid (by rw [HE.out, if_neg (by simp)])
  have hM2 := HL2.out (by first | rfl | trivial)
  replace HCL := hid (HCL.out hM1)
  clear HL1 HL2
  have HBW3 := hid HBW.out
  go_wp2_with fail
  rw [rounds_succ]
  go_wp2_with fail
  -- STOP-c
  refine (HCL.out _ HBW.out).mono ?_
  rintro e w4 ⟨v4, rfl, hown4, hb4⟩
  obtain ⟨A4, k4, rfl⟩ := own_formS hown4
  have HO4 := hid hown4
  replace HBW := hid (Below.step' HBW.out hb4)
  have HR2W := hid ((HR2.out.step HBW.out).1)
  have h2l := rcells_len M2
  have hs4 := hb4.size
  clear hown4 HCL
  have HB4 := hid hb4
  clear hb4
  go_wp2_with (at_builtin; refine wpList_append_row elem_item rfl _ _ rfl w3.heap.size _ M1.length (rcells M1) rfl HO4.out A2 M2.length c2 w4.heap.size (rcells M2) rfl h2l HR2W.out (rcells_one M2) ?_ ?_ ?_ ?_; rotate_right; intro v7 w7 hown7 hg7 hif7; rotate_left; (simp only [maxLen]; omega); (omega); (omega); obtain ⟨A7, k7, rfl⟩ := own_formS hown7)
  -- STOP-d
  have hlen : M1.length + M2.length = (M1 ++ M2).length := (List.length_append ..).symm
  have hof := hown7
  rw [← rcells_app, hlen] at hof
  have HRF := hid (Row.of_ownS hof)
  have HB7 := hid (HB4.out.grown hg7 hs4 (fun g e => (HO4.out.lt g e).1))
  replace HBW := hid (Below.step' HBW3.out HB7.out)
  have hl7 : (M1 ++ M2).length ≤ 800 := by rw [List.length_append]; omega
  try rw [show ((M1.length : Int) + (M2.length : Int)) = ((M1 ++ M2).length : Int) from by simp]
  try rw [hlen]
  obtain ⟨M, hM⟩ : ∃ q, q = M1 ++ M2 := ⟨_, rfl⟩
  replace HE : Hid (E = if (its (M1 ++ M2)).any wideB = true then 5 else 0) := hid (by rw [HE.out, show its (M1 ++ M2) = its M1 ++ its M2 from List.map_append])
  rw [← hM] at HE HRF hl7 ⊢
  clear hof hown7 hg7 hif7 hlen hs4 h2l HR2W HR1 HR2 HO4 HB4 HB7 HBW3 hM1 hM2 hM
  go_wp2_with fail
  -- STOP-e
  go_loopw [12, 37] (fun _ s37 wr => ∃ i : Nat, i ≤ M.length ∧ s37 = .int .i64 i ∧ Hid (∀ j, (h : j < i) → (h2 : j < M.length) → M[j].row.length = 4) ∧ Hid (Below w7.heap.size w7 wr)) (fun _ s37 _ => M.length - (intOf s37).toNat)
  case atStart => exact ⟨0, by omega, rfl, hid (fun j h => by omega), hid (Below.refl _ _)⟩
  case round =>
    obtain ⟨i, hi, rfl, HNO, HB⟩ := hrel
    by_cases hlt : i < M.length
    · have HRR := hid (HRF.out.step HB.out)
      obtain ⟨b, off, rfl, hb, g0, g1⟩ := HRR.out.it hlt
      have hneb : (b = wr.heap.size) = False := by simp; omega
      have HXL : Hid (∀ n, M[i].row.length = n → M[i].row.length = n) := hid fun _ h => h
      by_cases q4 : M[i].row.length = 4
      · have HQ := hid q4
        rw [q4] at g0
        clear q4
        go_wp2_with fail
        -- STOP-f
        go_roundw
        · exact ⟨i + 1, by omega, by simp, hid (fun j h h2 => by
            by_cases hj : j < i
            · exact HNO.out j hj h2
            · have : j = i := by omega
              subst this
              exact HQ.out), hid (Below.step' HB.out (alloc_below (Below.refl _ _) _))⟩
        · simp only [intOf]; omega
      · have hq4 : ((M[i].row.length : Int) != 4) = true := by simp; omega
        have HQ := hid q4
        have HE5 := hid (show E = 5 by
          rw [HE.out, if_pos]
          rw [List.any_eq_true]
          exact ⟨_, List.mem_map.2 ⟨_, List.getElem_mem hlt, rfl⟩, by simp [wideB, IR.it, HQ.out]⟩)
        clear q4
        go_wp2_with fail
        -- STOP-g
        go_ret
        exact ⟨ret_int HE5.out.symm, Below.step' HBW.out (Below.step' HB.out (alloc_below (Below.refl _ _) _))⟩
    · have hlt' : ((i : Int) < (M.length : Int)) = False := by simp; omega
      have HE0 := hid (show E = 0 by
        rw [HE.out, if_neg]
        rw [List.any_eq_true]
        rintro ⟨x, hx, hxw⟩
        obtain ⟨y, hy, rfl⟩ := List.mem_map.1 hx
        obtain ⟨j, hj, rfl⟩ := List.getElem_of_mem hy
        have := HNO.out j (by omega) hj
        simp [wideB, IR.it, this] at hxw)
      go_wp2_with fail
      -- STOP-h
      go_ret
      exact ⟨ret_int HE0.out.symm, Below.step' HBW.out HB.out⟩
end Go.Proofs.YtldlmkfigjicgaaGreatDoor
/- Queries over sets with weights: bounds of a step's list. No program in sight. -/
namespace Go.Proofs.YtldlmkfigjicgaaGreatDoor
set_option linter.unusedVariables false
set_option linter.unusedSimpArgs false

theorem badB_bound {x : It} (h : badB x = false) : x.1.length ≤ 8 ∧ (∀ z ∈ x.1, -1073741824 ≤ z ∧ z ≤ 1073741824) ∧ -1048576 ≤ x.2 ∧ x.2 ≤ 1048576 := by
  obtain ⟨h1, h2⟩ := badB_false h
  refine ⟨h1, fun z hz => ?_, h2⟩
  unfold badB rowB at h
  simp only [Bool.or_eq_false_iff, Bool.not_eq_false', Bool.and_eq_true, List.any_eq_false, Bool.not_eq_true'] at h
  have := h.1.2
  have h3 := this z hz
  unfold outB at h3
  simp only [Bool.or_eq_true, decide_eq_true_eq, not_or] at h3
  omega
theorem widsL_cons {s : St} {q : List St} {V W : List Int} (h : widsL (s :: q) V = some W) : stW s V ≠ 0 ∧ widsL q (V ++ [stW s V]) = some W := by
  rw [widsL] at h
  by_cases e : stW s V = 0
  · rw [if_pos e] at h; cases h
  · rw [if_neg e] at h; exact ⟨e, h⟩
theorem flat_le {α β : Type} (f : α → List β) (n : Nat) : ∀ (l : List α), (∀ x ∈ l, (f x).length ≤ n) → (l.flatMap f).length ≤ l.length * n
  | [], _ => by simp
  | x :: l, h => by
    rw [List.flatMap_cons, List.length_append, List.length_cons, Nat.succ_mul]
    have := h x (List.mem_cons_self ..)
    have := flat_le f n l fun y hy => h y (List.mem_cons_of_mem _ hy)
    omega
theorem stL_len (s : St) {A B : List It} (ha : A.length ≤ 400) (hb : B.length ≤ 400) : (stL s A B).length ≤ 160000 := by
  unfold stL
  split
  · unfold linL
    split
    · exact Nat.le_trans (List.length_filter_le _ _) (by omega)
    · split
      · unfold pickL; rw [List.length_map]; omega
      · split
        · rw [List.length_append]; omega
        · split
          · rw [List.length_append, negL, List.length_map]; omega
          · simp
  · split
    · have := flat_le (fun x : It => (B.filter (fun y => decide (colD y.1 s.val = colD x.1 s.col))).map (fun y => (x.1 ++ y.1, wrp (x.2 * y.2)))) 400 A fun x _ => by
        rw [List.length_map]; exact Nat.le_trans (List.length_filter_le _ _) hb
      have h2 := Nat.mul_le_mul_right 400 ha
      unfold joinL
      omega
    · split
      · unfold distL; rw [List.length_map]; exact Nat.le_trans (List.length_filter_le _ _) (by omega)
      · split
        · have := flat_le (fun k => toldL s k (grpN s A k) (grpS s A k)) 1 (keysG s A) fun x _ => by
            unfold toldL; split <;> simp
          have h2 := dedupI_len (A.map (fun x => colD x.1 s.col))
          rw [List.length_map] at h2
          unfold groupL
          unfold keysG at this ⊢
          omega
        · simp
theorem set_len {A : List It} (h : setI A = 0) : A.length ≤ 400 := (setI_zero.1 h).1
end Go.Proofs.YtldlmkfigjicgaaGreatDoor
/- rank.Rows. -/
namespace Go.Proofs.YtldlmkfigjicgaaGreatDoor
set_option linter.unusedVariables false
set_option linter.unusedSimpArgs false
open Go.ChangeShapes Go.WideShapes Go.ChangeAt Go.RowKit

/-- Rows as a list of slices of ints: the items' rows alone. -/
abbrev kcells (M : List IR) : List Value := M.flatMap fun x => [.slice x.A x.row.length x.k]
abbrev nrows (M : List IR) : List (List Int) := M.map IR.row
def RowsPost (S : List (List Int)) (x : Int) (w : World) (e : Ending) (w' : World) : Prop :=
  ∃ (A : Option Addr) (k : Nat) (M : List IR), e = .returned (.tuple #[.slice A M.length k, .int .i64 x]) ∧ nrows M = S ∧ w'.ownsRow w.heap.size 30 1 (.slice A M.length k) M.length (kcells M) ∧ RowsNew w' w.heap.size (.slice A M.length k) M ∧ Below w.heap.size w w'
theorem rowsPost_nil {S : List (List Int)} {w w' : World} {x y : Int} (hS : S = []) (hx : y = x) (hb : Below w.heap.size w w') : RowsPost S y w (.returned (.tuple #[.slice none 0 0, .int .i64 x])) w' := by
  subst hS hx; exact ⟨none, 0, [], rfl, rfl, World.ownsRow_nil _ _ _ _, RowsNew.nil _ _ _, hb⟩
theorem kcells_snoc (M : List IR) (x : IR) : kcells (M ++ [x]) = kcells M ++ [.slice x.A x.row.length x.k] := by rw [kcells, List.flatMap_append]; simp
theorem wid_le {l : List It} (h : setI l = 0) : widI l ≤ 8 := by
  cases l with
  | nil => decide
  | cons x l =>
    have := (badB_false ((setI_zero.1 h).2.1 x (by simp))).1
    unfold widI
    simp only
    split <;> omega
theorem expd_succ (L : List It) (i : Nat) (hi : i < L.length) : expd (L.take (i + 1)) = expd (L.take i) ++ List.replicate L[i].2.toNat L[i].1 := by
  unfold expd
  rw [List.take_succ_eq_append_getElem hi, List.flatMap_append]; simp
theorem expd_split (L : List It) (i : Nat) : expd L = expd (L.take i) ++ expd (L.drop i) := by
  unfold expd
  rw [← List.flatMap_append, List.take_append_drop]
theorem expd_drop (L : List It) (i : Nat) (hi : i < L.length) : expd (L.drop i) = List.replicate L[i].2.toNat L[i].1 ++ expd (L.drop (i + 1)) := by
  unfold expd
  rw [List.drop_eq_getElem_cons hi, List.flatMap_cons]
theorem elem_ints : Elem Tryz.prog 130 30 1 24 := ⟨Tryz.underlying130, by
  obtain ⟨i, hi, hz, hs, hb⟩ := info_parts (P := Tryz.prog) (e := 30) (z := .slice none 0 0) (size := 1) (bytes := 24) (by kernel_rfl)
  exact ⟨i, _, hi, hz, hs, hb, rfl⟩, by decide⟩

end Go.Proofs.YtldlmkfigjicgaaGreatDoor
/- plain.All. -/
namespace Go.Proofs.YtldlmkfigjicgaaGreatDoor
set_option linter.unusedVariables false
set_option linter.unusedSimpArgs false
open Go.ChangeShapes Go.WideShapes Go.ChangeAt Go.RowKit

theorem elem_sets : Elem Tryz.prog 44 22 1 24 := ⟨Tryz.underlying44, by
  obtain ⟨i, hi, hz, hs, hb⟩ := info_parts (P := Tryz.prog) (e := 22) (z := .slice none 0 0) (size := 1) (bytes := 24) (by kernel_rfl)
  exact ⟨i, _, hi, hz, hs, hb, rfl⟩, by decide⟩
abbrev pcells (LL : List LR) : List Value := LL.flatMap LR.cells
theorem pcells_len (LL : List LR) : (pcells LL).length = LL.length := by rw [pcells, flat_len LR.len, Nat.mul_one]
def setsOf (LL : List LR) : List (List It) := LL.map (fun x => its x.L)
theorem setsOf_len (LL : List LR) : (setsOf LL).length = LL.length := List.length_map ..
/-- Sets of a call's own making, that share nothing with the slice that holds them. -/
def SetsNew (w : World) (lo : Nat) (v : Value) (LL : List LR) : Prop :=
  ∀ x ∈ LL, w.ownsRow lo 67 2 (.slice x.A x.L.length x.k) x.L.length (rcells x.L) ∧ RowsNew w lo (.slice x.A x.L.length x.k) x.L ∧
    (∀ g, (Value.slice x.A x.L.length x.k).ownBlock = some g → some g ≠ v.ownBlock) ∧ ∀ y ∈ x.L, ∀ b off q, y.A = some ⟨b, off, q⟩ → some b ≠ v.ownBlock
theorem SetsNew.nil (w : World) (lo : Nat) (v : Value) : SetsNew w lo v [] := fun x hx => by simp at hx
theorem SetsNew.step {w w' : World} {lo : Nat} {v : Value} {LL : List LR} (h : SetsNew w lo v LL) (hb : Below w.heap.size w w') : SetsNew w' lo v LL := fun x hx => by
  obtain ⟨h1, h2, h3, h4⟩ := h x hx
  exact ⟨own_laterS h1 hb, h2.step hb, h3, h4⟩
theorem SetsNew.grown {w w' : World} {lo : Nat} {v v' : Value} {LL : List LR} (h : SetsNew w lo v LL) (hg : w.grownBy w' v.ownBlock) (hv : v'.ownBlock = v.ownBlock ∨ v'.ownBlock = some w.heap.size) : SetsNew w' lo v' LL := fun x hx => by
  obtain ⟨h1, h2, h3, h4⟩ := h x hx
  refine ⟨own_ne_grown h1 hg h3, h2.grownNe hg h4, fun g e => ?_, fun y hy b off q e => ?_⟩
  · rcases hv with hv | hv
    · rw [hv]; exact h3 g e
    · rw [hv]; intro e2; injection e2 with e2; have := (h1.lt g e).2; omega
  · rcases hv with hv | hv
    · rw [hv]; exact h4 y hy b off q e
    · rw [hv]; intro e2; injection e2 with e2; have := ((h2 y hy).2.2.1 b off q e).2; omega
theorem SetsNew.rows {w : World} {lo : Nat} {v : Value} {LL : List LR} (h : SetsNew w lo v LL) : ∀ x ∈ LL, RowI w w.heap.size x.A x.L := fun x hx => ⟨Row.of_ownS (h x hx).1, (h x hx).2.1.rows⟩
/-- All of one set lies ahead of all of the other. -/
def Apart (x y : LR) : Prop := ∃ mid : Nat, (∀ b off q, x.A = some ⟨b, off, q⟩ → b < mid) ∧ (∀ z ∈ x.L, ∀ b off q, z.A = some ⟨b, off, q⟩ → b < mid) ∧ NewAt mid y.A ∧ ∀ z ∈ y.L, NewAt mid z.A
theorem SetsNew.apart {w : World} {lo mid : Nat} {v : Value} {LL : List LR} (h : SetsNew w lo v LL) (hm : w.heap.size ≤ mid) (hp : LL.Pairwise Apart) {y : LR} (h1 : NewAt mid y.A) (h2 : ∀ z ∈ y.L, NewAt mid z.A) : (LL ++ [y]).Pairwise Apart := by
  refine List.pairwise_append.2 ⟨hp, List.pairwise_singleton _ _, fun x hx z hz => ?_⟩
  rw [List.mem_singleton.1 hz]
  obtain ⟨q1, q2, -, -⟩ := h x hx
  exact ⟨mid, fun b off q e => Nat.lt_of_lt_of_le (own_inS q1 b off q e) hm, fun t ht b off q e => Nat.lt_of_lt_of_le ((q2 t ht).2.2.1 b off q e).2 hm, h1, h2⟩
/-- Sets of a call's own making, and an error. -/
def AllPost (S : List (List It)) (x : Int) (w : World) (e : Ending) (w' : World) : Prop :=
  ∃ (A : Option Addr) (k : Nat) (LL : List LR), e = .returned (.tuple #[.slice A LL.length k, .int .i64 x]) ∧ setsOf LL = S ∧ w'.ownsRow w.heap.size 22 1 (.slice A LL.length k) LL.length (pcells LL) ∧ SetsNew w' w.heap.size (.slice A LL.length k) LL ∧ Below w.heap.size w w' ∧ LL.Pairwise Apart ∧ LL.length ≤ 30
theorem allPost_nil {S : List (List It)} {w w' : World} {x y : Int} (hS : S = []) (hx : y = x) (hb : Below w.heap.size w w') : AllPost S y w (.returned (.tuple #[.slice none 0 0, .int .i64 x])) w' := by
  subst hS hx; exact ⟨none, 0, [], rfl, rfl, World.ownsRow_nil _ _ _ _, SetsNew.nil _ _ _, hb, .nil, by simp⟩
theorem allPost_mk {S : List (List It)} {x y : Int} {w w' : World} {A : Option Addr} {k : Nat} {LL : List LR} (hx : y = x) (h1 : setsOf LL = S) (h2 : w'.ownsRow w.heap.size 22 1 (.slice A LL.length k) LL.length (pcells LL)) (h3 : SetsNew w' w.heap.size (.slice A LL.length k) LL) (h4 : Below w.heap.size w w') (h5 : LL.Pairwise Apart) (h6 : LL.length ≤ 30) : AllPost S y w (.returned (.tuple #[.slice A LL.length k, .int .i64 x])) w' := by
  subst hx; exact ⟨A, k, LL, rfl, h1, h2, h3, h4, h5, h6⟩
theorem setsOf_snoc (LL : List LR) (x : LR) : setsOf (LL ++ [x]) = setsOf LL ++ [its x.L] := List.map_append
theorem pcells_snoc (LL : List LR) (x : LR) : pcells (LL ++ [x]) = pcells LL ++ [.slice x.A x.L.length x.k] := by
  rw [pcells, List.flatMap_append]; rfl
theorem SetsNew.snoc {w : World} {lo : Nat} {v : Value} {LL : List LR} (h : SetsNew w lo v LL) {x : LR} (h1 : w.ownsRow lo 67 2 (.slice x.A x.L.length x.k) x.L.length (rcells x.L)) (h2 : RowsNew w lo (.slice x.A x.L.length x.k) x.L) (h3 : ∀ g, (Value.slice x.A x.L.length x.k).ownBlock = some g → some g ≠ v.ownBlock) (h4 : ∀ y ∈ x.L, ∀ b off q, y.A = some ⟨b, off, q⟩ → some b ≠ v.ownBlock) : SetsNew w lo v (LL ++ [x]) := fun y hy => by
  rcases List.mem_append.1 hy with e | e
  · exact h y e
  · rw [List.mem_singleton.1 e]; exact ⟨h1, h2, h3, h4⟩

theorem bound_of {A : List It} (h : setI A = 0) : ∀ y ∈ A, y.1.length ≤ 8 ∧ (∀ z ∈ y.1, -1073741824 ≤ z ∧ z ≤ 1073741824) ∧ -2097152 ≤ y.2 ∧ y.2 ≤ 2097152 := fun y hy => by
  have := badB_bound ((setI_zero.1 h).2.1 y hy)
  exact ⟨this.1, this.2.1, by omega, by omega⟩
theorem stepOk_of {s : St} {V : List Int} {out : List (List It)} (h : stW s V ≠ 0) (ho : OkOut out V) (k : s.kind ≠ 1) : 0 ≤ s.a ∧ s.a < out.length ∧ 0 ≤ s.b ∧ s.b < out.length ∧ StepOk s (out.getD s.a.toNat []) (out.getD s.b.toNat []) := by
  rcases stW_ok h with ⟨k1, -⟩ | ⟨a0, a1, b0, b1, hk⟩
  · exact absurd k1 k
  · obtain ⟨sA, hA⟩ := ho.get a0 a1
    obtain ⟨sB, hB⟩ := ho.get b0 b1
    have bA := bound_of sA
    have bB := bound_of sB
    rw [ho.1]
    refine ⟨a0, a1, b0, b1, ⟨fun k2 => ?_, fun k3 => ?_, fun k6 y hy => (bB y hy).2.2⟩, fun k4 => ?_, fun k89 => ?_⟩
    · rcases hk with ⟨q, hk⟩ | ⟨q, hk⟩ | ⟨q, hk⟩ | ⟨q, hk⟩ | q | ⟨q, hk⟩ | ⟨q, hk⟩ <;> try omega
      exact ⟨hk.1, fun y hy => by have := hA y hy; omega⟩
    · rcases hk with ⟨q, hk⟩ | ⟨q, hk⟩ | ⟨q, hk⟩ | ⟨q, hk⟩ | q | ⟨q, hk⟩ | ⟨q, hk⟩ <;> try omega
      exact ⟨hk.1, fun n hn => ⟨(hk.2 n hn).1, fun y hy => by have := hA y hy; have := (hk.2 n hn).2; omega⟩⟩
    · rcases hk with ⟨q, hk⟩ | ⟨q, hk⟩ | ⟨q, hk⟩ | ⟨q, hk⟩ | q | ⟨q, hk⟩ | ⟨q, hk⟩ <;> try omega
      exact ⟨hk.1, hk.2.2.1, fun y hy => ⟨by have := hA y hy; omega, bA y hy⟩, fun y hy => ⟨by have := hB y hy; omega, bB y hy⟩⟩
    · rcases hk with ⟨q, hk⟩ | ⟨q, hk⟩ | ⟨q, hk⟩ | ⟨q, hk⟩ | q | ⟨q, hk⟩ | ⟨q, hk⟩ <;> try omega
      · exact ⟨hk.1, fun k9 => by omega, fun y hy => ⟨by have := hA y hy; omega, fun k9 => by omega, (bA y hy).2⟩⟩
      · exact ⟨hk.1, fun k9 => hk.2.2.1, fun y hy => ⟨by have := hA y hy; omega, fun k9 => by have := hA y hy; omega, (bA y hy).2⟩⟩
theorem atL_len {s : St} {V : List Int} {out : List (List It)} {ta tb : List It} (h : stW s V ≠ 0) (ho : OkOut out V) (la : ta.length ≤ 400) (lb : tb.length ≤ 400) : (atL ta tb s out).length ≤ 160000 := by
  unfold atL
  by_cases k : s.kind = 1
  · rw [if_pos k]; split <;> omega
  · rw [if_neg k]
    rcases stW_ok h with ⟨k1, -⟩ | ⟨a0, a1, b0, b1, hk⟩
    · exact absurd k1 k
    · exact stL_len s (set_len (ho.get a0 a1).1) (set_len (ho.get b0 b1).1)
theorem stW_le {s : St} {V : List Int} (h : stW s V ≠ 0) (hV : ∀ v ∈ V, v ≤ 8) : stW s V ≤ 8 := by
  rw [stW_val h]
  have hg : ∀ i : Nat, V.getD i 0 ≤ 8 := fun i => by
    rw [List.getD_eq_getElem?_getD]
    cases e : V[i]? with
    | none => simp
    | some v => simpa using hV v (List.mem_of_getElem? e)
  unfold wv
  rcases stW_ok h with ⟨k1, -⟩ | ⟨a0, a1, b0, b1, hk⟩
  · rw [if_pos k1]; omega
  · have := hg s.a.toNat
    rcases hk with ⟨q, hk⟩ | ⟨q, hk⟩ | ⟨q, hk⟩ | ⟨q, hk⟩ | q | ⟨q, hk⟩ | ⟨q, hk⟩ <;> (repeat' split) <;> omega
theorem setsOf_getD {LL : List LR} {i : Nat} (h : i < LL.length) : (setsOf LL).getD i [] = its LL[i].L := by
  rw [List.getD_eq_getElem?_getD, setsOf, List.getElem?_map, List.getElem?_eq_getElem h]; rfl
end Go.Proofs.YtldlmkfigjicgaaGreatDoor
