/- RMerge, RSinP -/
import Derived.Test.YtogegnikpjcpdaaCk20
import Derived.Test.YtogegnikpjcpdaaCk10
import Derived.Test.YtogegnikpjcpdaaCk15
import Derived.Test.YtogegnikpjcpdaaCk05
/- viewref.Merge. -/
namespace Go.Proofs.Ytogegnikpjcpdaa
set_option linter.unusedVariables false
open Go.ChangeShapes Go.WideShapes Go.ChangeAt Go.RowKit
open Go.Shelf Go.Lib
open Go.Sort (grow SWO alloc_eq_grow grow_grow drew_grow)

theorem Row.two {w w' : World} {A : Option Addr} {N : Nat} {xs : List Value} {row : Option Nat} (h : Row w w.heap.size A xs) (hn : NewAt N A) (hg : w.grownBy w' row) (hr : ∀ g, row = some g → g < N) : Row w' w'.heap.size A xs := by
  rcases h with rfl | ⟨b, off, rfl, hb, hc⟩
  · exact .inl rfl
  · have hN := hn b off none rfl
    exact .inr ⟨b, off, rfl, Nat.lt_of_lt_of_le hb hg.size, fun j u hu => by
      rw [World.cell?_of_block (w := w) (hg.block b hb (fun e => by have := hr b e.symm; omega))]
      exact hc j u hu⟩
theorem before_grow (a0 a1 b0 b1 : Int) (w : World) :
    Calls Try.prog 61 #[.agg #[.int .i64 a0, .int .i64 a1], .agg #[.int .i64 b0, .int .i64 b1]] w fun e w' => e = .returned (.bool (before (a0, a1) (b0, b1))) ∧ ∃ q os', w' = grow (w.drewN q) os' := by
  go_enter Try.func61, Try.ntmps61
  go_wp2
  all_goals go_ret
  all_goals (refine ⟨ret_bool ?_, 0, _, by rw [alloc_eq_grow, alloc_eq_grow, grow_grow]; rfl⟩; unfold before; first | (simp [*]; done) | (simp [*]; omega) | (simp; omega))
def rmCf (x y : Cel) : Int := if before x.d y.d = true then -1 else 1
set_option maxHeartbeats 400000 in
set_option maxRecDepth 100000 in
theorem rmerge1_run (x y : Cel) (w : World) : Calls Try.prog 91 #[celv x, celv y] w fun e w' => e = .returned (.int .i64 (rmCf x y)) ∧ ∃ q os', w' = grow (w.drewN q) os' := by
  obtain ⟨⟨a0, a1⟩, a2, a3, a4⟩ := x
  obtain ⟨⟨b0, b1⟩, b2, b3, b4⟩ := y
  have hb := fun w => before_grow a0 a1 b0 b1 w
  simp only [celv, rmCf]
  have e : ∀ (w : World) (os : Array Obj) (q : Nat), (grow w os).drewN q = grow (w.drewN q) os := fun _ _ _ => rfl
  cases q : before (a0, a1) (b0, b1)
  all_goals
    rw [q] at hb
    go_enter Try.func91, Try.ntmps91
    go_wp2_with (go_at_call 61; refine (hb _).mono ?_; rintro e w' ⟨rfl, q, os', rfl⟩)
    go_ret
    exact ⟨rfl, _, _, by rw [alloc_eq_grow, alloc_eq_grow, grow_grow, e, grow_grow]⟩
def cmpRM : CmpCel 91 where
  cf := rmCf
  lt x y := by unfold rmCf; cases h : before x.d y.d <;> simp [ltOf, celLt, h]
  run x y w := rmerge1_run x y w
  enters := enters_of Try.func91 (by kernel_rfl) rfl

theorem rall_sort {a b : Tab} (ha : tabI a = 0) (hb : tabI b = 0) {M : List Cel} (hp : M.Perm (rallL a b)) (hs : M.Pairwise (fun x y => celLt y x = false)) : M = (rallL a b).mergeSort celLe := by
  refine sort_one (fun x hx y hy e => ?_) hp hs
  have h := rall_dots ha hb
  obtain ⟨i, hi, rfl⟩ := List.getElem_of_mem hx
  obtain ⟨j, hj, rfl⟩ := List.getElem_of_mem hy
  rcases Nat.lt_trichotomy i j with q | q | q
  · exact absurd e (List.pairwise_iff_getElem.1 h i j hi hj q)
  · subst q; rfl
  · exact absurd e.symm (List.pairwise_iff_getElem.1 h j i hj hi q)

set_option maxHeartbeats 20000000 in
set_option maxRecDepth 100000 in
theorem Rmerge_any (a b : Tab) (A : Option Addr) (k : Nat) (B : Option Addr) (m : Nat) (A' : Option Addr) (k' : Nat) (B' : Option Addr) (m' : Nat) (w : World)
    (ra : Row w w.heap.size A (dcells a.c.cloud)) (la : a.c.cloud.length ≤ 9223372036854775807) (rb : Row w w.heap.size B (tcells a.cells)) (lb : a.cells.length ≤ 9223372036854775807)
    (ra' : Row w w.heap.size A' (dcells b.c.cloud)) (la' : b.c.cloud.length ≤ 9223372036854775807) (rb' : Row w w.heap.size B' (tcells b.cells)) (lb' : b.cells.length ≤ 9223372036854775807) :
    Calls Try.prog 55 #[tval a A k B m, tval b A' k' B' m'] w (TabErr (mergeX a b) (mergeE a b) w) := by
  have HTA := hid (fun w1 (hb : Below w.heap.size w w1) => rtable_any a A k B m w1 (ra.step hb) la (rb.step hb) lb)
  have HTB := hid (fun w1 (hb : Below w.heap.size w w1) => rtable_any b A' k' B' m' w1 (ra'.step hb) la' (rb'.step hb) lb')
  have HCA := hid (fun d w1 (hb : Below w.heap.size w w1) => cell_any a d A k B m w1 (rb.step hb) lb)
  have HCB := hid (fun d w1 (hb : Below w.heap.size w w1) => cell_any b d A' k' B' m' w1 (rb'.step hb) lb')
  have HHA := hid (fun d w1 (hb : Below w.heap.size w w1) => Rhas_any a.c d A k w1 (ra.step hb) la)
  have HHB := hid (fun d w1 (hb : Below w.heap.size w w1) => Rhas_any b.c d A' k' w1 (ra'.step hb) la')
  have HJ : Hid (tabI a = 0 → tabI b = 0 → ∀ w1, Below w.heap.size w w1 → Calls Try.prog 29 #[cval a.c A k, cval b.c A' k'] w1 (CtxErr (joinX a.c b.c) (joinE a.c b.c) w1)) := hid (fun h h' w1 hb => by
    have h2 : twoI a.c b.c = 0 := checkI_two (tabI_zero h).1 (tabI_zero h').1
    rw [(join_two h2).1, (join_two h2).2]
    exact joined_any a.c b.c A A' k k' w1 (ra.step hb) (two_ok h2).2.2.1 (ra'.step hb) (two_ok h2).2.2.2 (two_ok h2).1 (two_ok h2).2.1)
  have HRB := hid (fun w1 (hb : Below w.heap.size w w1) => rb.step hb)
  have HRB' := hid (fun w1 (hb : Below w.heap.size w w1) => rb'.step hb)
  have HLN : Hid (tabI a = 0 → tabI b = 0 → a.cells.length ≤ 400 ∧ b.cells.length ≤ 400) := hid (fun h h' => ⟨(tabI_zero h).2.1, (tabI_zero h').2.1⟩)
  have HCL : Hid (tabI a = 0 → ∀ y, clashB a b y = (cellB a.cells y.d && !decide (cellX a.cells y.d = y))) := hid (fun h y => clash_iff h)
  have HPM : Hid (tabI a = 0 → tabI b = 0 → ∀ M : List Cel, M.Perm (a.cells ++ b.cells.filter fun y => !cellB a.cells y.d) → M.Pairwise (fun x y => celLt y x = false) → bothE a b = 0 → M.filter (routB a b) = mergeL a b) := hid (fun h h' M hp hs hz => by
    rw [← rout_eq hz, rall_sort h h' hp hs]; rfl)
  have hRO : ∀ z, routB a b z = ((cellB a.cells z.d && cellB b.cells z.d || cellB a.cells z.d && !hasB b.c z.d) || cellB b.cells z.d && !hasB a.c z.d) := fun z => rfl
  have hX1 : (bothE a b ≠ 0 ∨ joinE a.c b.c ≠ 0 ∨ 400 < (mergeL a b).length) → mergeX a b = zT := fun h => by unfold mergeX; rw [if_pos h]
  have hX2 : bothE a b = 0 → joinE a.c b.c = 0 → ¬ 400 < (mergeL a b).length → mergeX a b = ⟨joinX a.c b.c, mergeL a b⟩ := fun h1 h2 h3 => by unfold mergeX; rw [if_neg (by simp [h1, h2, h3])]
  have hE : mergeE a b = if bothE a b ≠ 0 then bothE a b else if joinE a.c b.c ≠ 0 then joinE a.c b.c else if 400 < (mergeL a b).length then 2 else 0 := rfl
  have hBE : bothE a b = if tabI a ≠ 0 then tabI a else if tabI b ≠ 0 then tabI b else if b.cells.any (clashB a b) then 5 else 0 := rfl
  obtain ⟨R, hR⟩ : ∃ R, R = mergeX a b := ⟨_, rfl⟩
  obtain ⟨RE, hRE⟩ : ∃ RE, RE = mergeE a b := ⟨_, rfl⟩
  rw [← hR, ← hRE]
  rw [← hR] at hX1 hX2
  rw [← hRE] at hE
  clear hR hRE
  obtain ⟨ML, hML⟩ : ∃ ML, ML = mergeL a b := ⟨_, rfl⟩
  rw [← hML] at HPM hX1 hX2 hE
  clear hML
  obtain ⟨J, hJ⟩ : ∃ J, J = joinX a.c b.c := ⟨_, rfl⟩
  obtain ⟨JE, hJE⟩ : ∃ J, J = joinE a.c b.c := ⟨_, rfl⟩
  rw [← hJ, ← hJE] at HJ
  rw [← hJ] at hX2
  rw [← hJE] at hX1 hX2 hE
  clear hJ hJE
  obtain ⟨BE, hBEE⟩ : ∃ J, J = bothE a b := ⟨_, rfl⟩
  rw [← hBEE] at HPM hX1 hX2 hE hBE
  clear hBEE
  obtain ⟨clash, hcl⟩ : ∃ f, f = clashB a b := ⟨_, rfl⟩
  rw [← hcl] at hBE HCL
  clear hcl
  obtain ⟨rout, hro⟩ : ∃ f, f = routB a b := ⟨_, rfl⟩
  rw [← hro] at hRO HPM
  clear hro
  obtain ⟨TA, hTA⟩ : ∃ J, J = tabI a := ⟨_, rfl⟩
  obtain ⟨TB, hTB⟩ : ∃ J, J = tabI b := ⟨_, rfl⟩
  rw [← hTA] at HTA HJ HLN HCL HPM hBE
  rw [← hTB] at HTB HJ HLN HPM hBE
  clear hTA hTB
  have HX1 := hid hX1
  have HX2 := hid hX2
  have HE := hid hE
  have HBE := hid hBE
  have HRO := hid hRO
  clear hX1 hX2 hE hBE hRO ra rb ra' rb'
  obtain ⟨⟨c0, c1, c2, c3, cl⟩, l⟩ := a
  obtain ⟨⟨f0, f1, f2, f3, fl⟩, l'⟩ := b
  simp only [tval, cval] at HTA HTB HCA HCB HHA HHB HJ ⊢
  simp only at HRB HRB' HLN HCL HPM HRO HBE
  obtain ⟨i0, hi0, hz0, hz1, hz2⟩ := info_parts info_cel
  go_enter Try.func55, Try.ntmps55
  go_wp2_with fail
  refine (HTA.out _ (by (repeat' (first | (with_reducible exact Below.refl _ _) | (with_reducible assumption) | (with_reducible refine below_drewN ?_ _) | (with_reducible refine Below.drew ?_) | (with_reducible refine Below.alloc ?_ ?_ _) | (with_reducible refine Below.setCell ?_ ?_ _) | (refine Below.trans ?_ (Below.mono (by assumption) ?_)) | go_size)))).mono ?_
  rintro e w1 ⟨rfl, hb1⟩
  have HBW := hid (show Below w.heap.size w w1 from (by refine Below.step' ?_ hb1; (repeat' (first | (with_reducible exact Below.refl _ _) | (with_reducible assumption) | (with_reducible refine below_drewN ?_ _) | (with_reducible refine Below.drew ?_) | (with_reducible refine Below.alloc ?_ ?_ _) | (with_reducible refine Below.setCell ?_ ?_ _) | (refine Below.trans ?_ (Below.mono (by assumption) ?_)) | go_size))))
  have HXA := hid (Blk.step (w := _) (b := w.heap.size) (cs := #[.int .i64 c0, .int .i64 c1, .int .i64 c2, .int .i64 c3, .slice A cl.length k, .slice B l.length m]) (T := 59) (by exact ((Blk.new w _ _).alloc _).alloc _) hb1)
  have HXB := hid (Blk.step (w := _) (b := w.heap.size + 1) (cs := #[.int .i64 f0, .int .i64 f1, .int .i64 f2, .int .i64 f3, .slice A' fl.length k', .slice B' l'.length m']) (T := 59) (by exact (Blk.new' (w.alloc _) _ _ (by simp)).alloc _) hb1)
  have HXR := hid (Blk.step (w := _) (b := w.heap.size + 1 + 1) (cs := #[.int .i64 0, .int .i64 0, .int .i64 0, .int .i64 0, .slice none 0 0, .slice none 0 0]) (T := 59) (by exact Blk.new' ((w.alloc _).alloc _) _ _ (by simp)) hb1)
  clear hb1
  have hs := HBW.out.size
  have hxr := HXR.out.lt
  by_cases qA : TA = 0
  rotate_left
  · have t1 : (TA != 0) = true := by simpa using qA
    have hbe : BE = TA := by have e := HBE.out; rw [if_pos qA] at e; exact e
    have hbz : BE ≠ 0 := by rw [hbe]; exact qA
    have E0 := hid hbe
    have EZ := hid hbz
    clear qA hbe hbz
    have E1 : Hid (R = zT) := hid (HX1.out (.inl EZ.out))
    have E2 : Hid (RE = TA) := hid (by have e := HE.out; rw [if_pos EZ.out, E0.out] at e; exact e)
    have hR := HXR.out
    obtain ⟨⟨r0, r1, r2, r3, r4, r5⟩, g0, g1, g2, g3, g4, g5⟩ := hR.six
    have HR6 := hid (Blk.set6 hR (.int .i64 0) (.int .i64 0) (.int .i64 0) (.int .i64 0) (.slice none 0 0) (.slice none 0 0))
    have HB6 := hid (Below.set6 HBW.out (show w.heap.size ≤ w.heap.size + 1 + 1 by omega) (.int .i64 0) (.int .i64 0) (.int .i64 0) (.int .i64 0) (.slice none 0 0) (.slice none 0 0))
    clear hR
    go_wp2
    obtain ⟨⟨q0, q1, q2, q3, q4, q5⟩, -⟩ := HR6.out.six
    exact bodyPost_ret (v := .tuple #[tval zT none 0 none 0, .int .i64 TA]) (by simp [results, Try.results55, go_sem, q0, q1, q2, q3, q4, q5, zT]) rfl ⟨none, 0, none, 0, by rw [E1.out, E2.out], by rw [E1.out]; exact Row.nil, by rw [E1.out]; exact Row.nil, HB6.out, newAt_none _, newAt_none _⟩
  · subst qA
    obtain ⟨cHXB, fHXB, sHXB, nHXB⟩ := HXB.out.all
    try simp only [cbox] at cHXB
    go_wp2_with fail
    refine (HTB.out _ HBW.out).mono ?_
    rintro e w2 ⟨rfl, hb2⟩
    clear cHXB fHXB sHXB nHXB
    replace HXA := hid (HXA.out.step hb2)
    replace HXB := hid (HXB.out.step hb2)
    replace HXR := hid (HXR.out.step hb2)
    replace HBW := hid (Below.step' HBW.out hb2)
    clear hb2
    by_cases qB : TB = 0
    rotate_left
    · have t1 : (TB != 0) = true := by simpa using qB
      have hbe : BE = TB := by have e := HBE.out; rw [if_neg (by simp), if_pos qB] at e; exact e
      have hbz : BE ≠ 0 := by rw [hbe]; exact qB
      have E0 := hid hbe
      have EZ := hid hbz
      clear qB hbe hbz
      have E1 : Hid (R = zT) := hid (HX1.out (.inl EZ.out))
      have E2 : Hid (RE = TB) := hid (by have e := HE.out; rw [if_pos EZ.out, E0.out] at e; exact e)
      have hR := HXR.out
      obtain ⟨⟨r0, r1, r2, r3, r4, r5⟩, g0, g1, g2, g3, g4, g5⟩ := hR.six
      have HR6 := hid (Blk.set6 hR (.int .i64 0) (.int .i64 0) (.int .i64 0) (.int .i64 0) (.slice none 0 0) (.slice none 0 0))
      have HB6 := hid (Below.set6 HBW.out (show w.heap.size ≤ w.heap.size + 1 + 1 by omega) (.int .i64 0) (.int .i64 0) (.int .i64 0) (.int .i64 0) (.slice none 0 0) (.slice none 0 0))
      clear hR
      go_wp2
      obtain ⟨⟨q0, q1, q2, q3, q4, q5⟩, -⟩ := HR6.out.six
      exact bodyPost_ret (v := .tuple #[tval zT none 0 none 0, .int .i64 TB]) (by simp [results, Try.results55, go_sem, q0, q1, q2, q3, q4, q5, zT]) rfl ⟨none, 0, none, 0, by rw [E1.out, E2.out], by rw [E1.out]; exact Row.nil, by rw [E1.out]; exact Row.nil, HB6.out, newAt_none _, newAt_none _⟩
    · subst qB
      obtain ⟨hl1, hl2⟩ := HLN.out (by first | rfl | trivial) (by first | rfl | trivial)
      have KJ := hid (HJ.out (by first | rfl | trivial) (by first | rfl | trivial))
      have KCL := hid (HCL.out (by first | rfl | trivial))
      have KPM := hid (HPM.out (by first | rfl | trivial) (by first | rfl | trivial))
      have KBE : Hid (BE = if l'.any clash = true then 5 else 0) := hid (by have e := HBE.out; rw [if_neg (by simp), if_neg (by simp)] at e; exact e)
      clear HJ HLN HCL HPM HBE HTA HTB
      obtain ⟨cHXA, fHXA, sHXA, nHXA⟩ := HXA.out.all
      try simp only [cbox] at cHXA
      go_wp2_with (at_builtin; refine wpList_append_row el_cel rfl _ _ (by rfl) w2.heap.size (.slice none 0 0) 0 [] (by rfl) (World.ownsRow_nil _ _ _ _) B l.length m _ (tcells l) (by rfl) (flat_len Cel.len l) (HRB.out _ HBW.out) (tcells_one _) (by simp only [maxLen]; omega) (by omega) (Nat.le_refl _) ?_; intro v3 w3 hown3 hg3 _; rw [Nat.zero_add, List.nil_append] at hown3; obtain ⟨A3, k3, rfl⟩ := own_formS hown3)
      have hb3 : Below w2.heap.size w2 w3 := below_grown_nil (Below.refl _ _) hg3
      clear cHXA fHXA sHXA nHXA
      have HB3 := hid hb3
      have HOWN3 := hid hown3
      clear hg3 hown3 hb3
      go_loopw [8, 9] (fun s8 s9 wr => ∃ i : Nat, i ≤ l'.length ∧ s9 = .int .i64 i ∧ (∀ y ∈ l'.take i, clash y = false) ∧ wr.ownsRow w2.heap.size 62 5 s8 (l ++ (l'.take i).filter fun y => !cellB l y.d).length (tcells (l ++ (l'.take i).filter fun y => !cellB l y.d)) ∧ Below w2.heap.size w2 wr) (fun _ s9 _ => l'.length - (intOf s9).toNat)
      case atStart => exact ⟨0, by omega, rfl, by simp, by simpa using HOWN3.out, HB3.out⟩
      case round =>
        obtain ⟨i, hi, rfl, hno, hown, hbw⟩ := hrel
        have hst : ∀ hj : i < l'.length, l ++ (l'.take (i + 1)).filter (fun y => !cellB l y.d) = (l ++ (l'.take i).filter (fun y => !cellB l y.d)) ++ (if cellB l l'[i].d = true then [] else [l'[i]]) := by
          intro hj
          rw [List.take_succ_eq_append_getElem hj, List.filter_append, List.filter_cons, List.filter_nil, ← List.append_assoc]
          cases cellB l l'[i].d <;> rfl
        have hno' : ∀ hj : i < l'.length, clash l'[i] = false → ∀ y ∈ l'.take (i + 1), clash y = false := by
          intro hj h y hy
          rw [List.take_succ_eq_append_getElem hj] at hy
          rcases List.mem_append.1 hy with hy | hy
          · exact hno y hy
          · rw [List.mem_singleton.1 hy]; exact h
        have hol : (l ++ (l'.take i).filter fun y => !cellB l y.d).length ≤ 800 := by
          have := List.length_filter_le (fun y : Cel => !cellB l y.d) (l'.take i)
          rw [List.length_take] at this
          rw [List.length_append]
          omega
        have hfin : ¬ i < l'.length → (l ++ (l'.take i).filter fun y => !cellB l y.d) = l ++ l'.filter (fun y => !cellB l y.d) ∧ l'.any clash = false := fun h => by
          rw [List.take_of_length_le (by omega)] at hno ⊢
          exact ⟨rfl, by rw [List.any_eq_false]; intro y hy; simp [hno y hy]⟩
        obtain ⟨O, hO⟩ : ∃ O, O = (l ++ (l'.take i).filter fun y => !cellB l y.d) := ⟨_, rfl⟩
        rw [← hO] at hown hst hol hfin
        clear hO hno
        obtain ⟨A8, c8, rfl⟩ := own_formS hown
        have HOWN := hid hown
        have HB1 := hid hbw
        have HBB := hid (Below.step' HBW.out hbw)
        have HFIN := hid hfin
        have HNO := hid hno'
        have HXA2 := hid (HXA.out.step hbw)
        have HXB2 := hid (HXB.out.step hbw)
        have HXR2 := hid (HXR.out.step hbw)
        have hs2 := hbw.size
        clear hown hbw hfin hno' HB3 HOWN3
        by_cases hlt : i < l'.length
        · obtain ⟨b, off, hA, hb, e0, e1, e2, e3, e4⟩ := (HRB'.out wr HBB.out).cel hlt
          subst hA
          have HST := hid (hst hlt)
          have HNO1 := hid (HNO.out hlt)
          have HMEM := hid (List.getElem_mem hlt)
          clear hst HNO
          generalize l'[i] = x at *
          obtain ⟨⟨d0, d1⟩, ky, co, vl⟩ := x
          simp only at e0 e1 e2 e3 e4
          have HCC := hid (HCA.out (d0, d1))
          have HKC := hid (KCL.out ⟨(d0, d1), ky, co, vl⟩)
          simp only [dval] at HCC HST HKC
          obtain ⟨X, hX⟩ : ∃ X, X = cellX l (d0, d1) := ⟨_, rfl⟩
          obtain ⟨bx, hbx⟩ : ∃ bx, bx = cellB l (d0, d1) := ⟨_, rfl⟩
          rw [← hX, ← hbx] at HCC HKC
          rw [← hbx] at HST
          clear hX hbx
          obtain ⟨⟨y0, y1⟩, y2, y3, y4⟩ := X
          simp only [celv] at HCC
          obtain ⟨W, hW⟩ : ∃ W : World, W = wr := ⟨_, rfl⟩
          subst hW
          obtain ⟨cHXA2, fHXA2, sHXA2, nHXA2⟩ := HXA2.out.all
          try simp only [cbox] at cHXA2
          obtain ⟨cHXB2, fHXB2, sHXB2, nHXB2⟩ := HXB2.out.all
          try simp only [cbox] at cHXB2
          go_upto_region 11 with fail
          go_cut [10, 11] from 43 to 52 (fun s10 s11 wx => ∃ X, s10 = .pointer (some ⟨X, 0, none⟩) ∧ s11 = .bool bx ∧ Blk wx X #[.int .i64 y0, .int .i64 y1, .int .i64 y2, .int .i64 y3, .int .i64 y4] 62 ∧ Below W.heap.size W wx)
          case first =>
            go_region_held3 (fun w' => (∀ b o, b < W.heap.size → w'.cell? ⟨b, o, none⟩ = W.cell? ⟨b, o, none⟩) ∧ Below W.heap.size W w')
              ((go_split_ands; refine keepS ?_; first | (with_reducible assumption) | (with_reducible exact (Below.refl _ _).drew) | (with_reducible exact (alloc_below (Below.refl _ _) _).drew) | (with_reducible refine alloc_below ?_ _; with_reducible assumption) | (with_reducible refine Below.drew (alloc_below ?_ _); with_reducible assumption) | (with_reducible refine Below.set5 ?_ ?_ _ _ _ _ _; with_reducible assumption; first | exact Nat.le_refl _ | (refine Below.size (B := W.heap.size) (w := W) ?_; with_reducible assumption))))
              ((go_split_ands; go_at_call 90; (with_reducible refine (HCC.out _ (Below.step' HBB.out (by with_reducible assumption))).mono ?_); rintro e w5 ⟨rfl, hb5⟩; have hB5 := Below.step' (by with_reducible assumption : Below W.heap.size W _) hb5; (try have x5 := Blk.step (show Blk (World.drew (W.alloc (.cells #[.int .i64 0, .int .i64 0, .int .i64 0, .int .i64 0, .int .i64 0] 62))) W.heap.size #[.int .i64 0, .int .i64 0, .int .i64 0, .int .i64 0, .int .i64 0] 62 from Blk.new W #[.int .i64 0, .int .i64 0, .int .i64 0, .int .i64 0, .int .i64 0] 62) hb5); (try obtain ⟨⟨cx0, cx1, cx2, cx3, cx4⟩, fx0, fx1, fx2, fx3, fx4⟩ := x5.five)))
            · go_wp2
              go_meet
              case rel => exact ⟨w5.heap.size, rfl, rfl, Blk.new w5 _ _, alloc_below hB5 _⟩
            all_goals
              go_wp2
              go_meet
              case rel => exact ⟨W.heap.size, rfl, rfl, Blk.set5 x5 _ _ _ _ _, Below.set5 hB5 (Nat.le_refl _) _ _ _ _ _⟩
          case rest =>
            clear cHXA2 fHXA2 sHXA2 nHXA2
            clear cHXB2 fHXB2 sHXB2 nHXB2
            obtain ⟨X, rfl, rfl, hX, hb5⟩ := hcut
            obtain ⟨wx, rfl⟩ : ∃ wx : World, wx = wc := ⟨_, rfl⟩
            have HXB3 := hid (HXB2.out.step hb5)
            have HXR3 := hid (HXR2.out.step hb5)
            have HBB3 := hid (Below.step' HBB.out hb5)
            have HOWN3 := hid (own_laterS HOWN.out hb5)
            have HB3 := hid (Below.step' HB1.out hb5)
            have hs3 := (Below.step' HB1.out hb5).size
            have hs5 := hb5.size
            have hbn : b < wx.heap.size := by omega
            have e0' : wx.cell? ⟨b, off + i * 5, none⟩ = some (.int .i64 d0) := ((bcell hb5).1 _ _ hb).trans e0
            have e1' : wx.cell? ⟨b, off + i * 5 + 1, none⟩ = some (.int .i64 d1) := ((bcell hb5).1 _ _ hb).trans e1
            have e2' : wx.cell? ⟨b, off + i * 5 + 2, none⟩ = some (.int .i64 ky) := ((bcell hb5).1 _ _ hb).trans e2
            have e3' : wx.cell? ⟨b, off + i * 5 + 3, none⟩ = some (.int .i64 co) := ((bcell hb5).1 _ _ hb).trans e3
            have e4' : wx.cell? ⟨b, off + i * 5 + 4, none⟩ = some (.int .i64 vl) := ((bcell hb5).1 _ _ hb).trans e4
            obtain ⟨⟨x0, x1, x2, x3, x4⟩, -⟩ := hX.five
            clear e0 e1 e2 e3 e4 hb5 hX HXA2 HXB2 HXR2 HOWN HB1 hb
            obtain ⟨cHXB3, fHXB3, sHXB3, nHXB3⟩ := HXB3.out.all
            try simp only [cbox] at cHXB3
            cases bx
            · have HQ := hid (show clash ⟨(d0, d1), ky, co, vl⟩ = false by rw [HKC.out]; rfl)
              have hneb : (b = wx.heap.size) = False := by simp; omega
              go_wp2
              refine wp_region_quiet_lit (by kernel_rfl) (by kernel_rfl) ?_
              repeat (any_goals ((with_reducible refine wpQuiet_step (fun K hK => ?_)); go_simp; first | (with_reducible refine hK _ ?_; clear hK K) | ((with_reducible apply Exists.intro); (with_reducible refine ⟨fun _ => ?_, hK _ ?_⟩); (fail); clear hK K) | ((with_reducible refine (if_neg ?_).mpr (hK _ ?_)); (decide); clear hK K) | (split <;> (with_reducible refine hK _ ?_; clear hK K))))
              all_goals ((with_reducible refine wpQuiet_nil ?_); intro _ hw'; obtain ⟨nq, hw''⟩ := hw'; subst hw'')
              go_wp2_with (at_builtin; refine wpList_append_own _ rfl _ _ 57 rfl w2.heap.size 62 i0 _ 5 40 Try.underlying57 hi0 hz0 hz1 hz2 rfl (by decide) _ _ _ rfl ((own_laterS HOWN3.out (below_drewN (Below.refl _ _) _)).alloc _) ⟨wx.heap.size, 0, none⟩ 1 1 (tcells [⟨(d0, d1), ky, co, vl⟩]) rfl rfl (newsT (wx.drewN _) ⟨(d0, d1), ky, co, vl⟩ _ _ rfl) (tcells_one _) ?_ ?_ ?_ ?_; rotate_right; intro v6 w6 hown6 hg6 hif6; clear hif6; rotate_left; (simp only [maxLen]; omega); (omega); (simp; omega))
              go_roundw
              case rel =>
                refine ⟨i + 1, by omega, by go_num, HNO1.out HQ.out, ?_, ((below_drewN HB3.out _).alloc (by simp; omega) _).grown hg6 (by simp; omega) (fun g e => (HOWN3.out.lt g e).1)⟩
                rw [HST.out, if_neg (by simp), tcells_snoc]
                simpa using hown6
              case measure => simp [intOf]; omega
            · have hq := fun w => neq_cel y0 y1 y2 y3 y4 d0 d1 ky co vl w
              rw [cel_eq] at hq
              by_cases qe : (⟨(y0, y1), y2, y3, y4⟩ : Cel) = ⟨(d0, d1), ky, co, vl⟩
              · have HQ := hid (show clash ⟨(d0, d1), ky, co, vl⟩ = false by rw [HKC.out, decide_eq_true qe]; rfl)
                rw [decide_eq_true qe, Bool.not_true] at hq
                clear qe
                go_wp2
                refine wp_region_quiet_lit (by kernel_rfl) (by kernel_rfl) ?_
                repeat (any_goals ((with_reducible refine wpQuiet_step (fun K hK => ?_)); go_simp; first | (with_reducible refine hK _ ?_; clear hK K) | ((with_reducible apply Exists.intro); (with_reducible refine ⟨fun _ => ?_, hK _ ?_⟩); (fail); clear hK K) | ((with_reducible refine (if_neg ?_).mpr (hK _ ?_)); (decide); clear hK K) | (split <;> (with_reducible refine hK _ ?_; clear hK K))))
                all_goals ((with_reducible refine wpQuiet_nil ?_); intro _ hw'; obtain ⟨nq, hw''⟩ := hw'; subst hw'')
                go_wp2
                go_roundw
                case rel =>
                  refine ⟨i + 1, by omega, by go_num, HNO1.out HQ.out, ?_, below_drewN HB3.out _⟩
                  rw [HST.out, if_pos trivial, List.append_nil]
                  exact own_laterS HOWN3.out (below_drewN (Below.refl _ _) _)
                case measure => simp [intOf]; omega
              · have hcq : clash ⟨(d0, d1), ky, co, vl⟩ = true := by rw [HKC.out, decide_eq_false qe]; rfl
                have hbe : BE = 5 := by rw [KBE.out, if_pos (List.any_eq_true.2 ⟨_, HMEM.out, hcq⟩)]
                have hbz : BE ≠ 0 := by rw [hbe]; decide
                have E0 := hid hbe
                have EZ := hid hbz
                rw [decide_eq_false qe, Bool.not_false] at hq
                clear qe hbe hbz hcq
                go_wp2
                refine wp_region_quiet_lit (by kernel_rfl) (by kernel_rfl) ?_
                repeat (any_goals ((with_reducible refine wpQuiet_step (fun K hK => ?_)); go_simp; first | (with_reducible refine hK _ ?_; clear hK K) | ((with_reducible apply Exists.intro); (with_reducible refine ⟨fun _ => ?_, hK _ ?_⟩); (fail); clear hK K) | ((with_reducible refine (if_neg ?_).mpr (hK _ ?_)); (decide); clear hK K) | (split <;> (with_reducible refine hK _ ?_; clear hK K))))
                all_goals ((with_reducible refine wpQuiet_nil ?_); intro _ hw'; obtain ⟨nq, hw''⟩ := hw'; subst hw'')
                have HXR4 := hid (HXR3.out.drewN nq)
                have HBB4 := hid (below_drewN HBB3.out nq)
                -- STOP-c
                have E1 : Hid (R = zT) := hid (HX1.out (.inl EZ.out))
                have E2 : Hid (RE = 5) := hid (by have e := HE.out; rw [if_pos EZ.out, E0.out] at e; exact e)
                have hR := HXR4.out
                obtain ⟨⟨r0, r1, r2, r3, r4, r5⟩, g0, g1, g2, g3, g4, g5⟩ := hR.six
                have HR6 := hid (Blk.set6 hR (.int .i64 0) (.int .i64 0) (.int .i64 0) (.int .i64 0) (.slice none 0 0) (.slice none 0 0))
                have HB6 := hid (Below.set6 HBB4.out (show w.heap.size ≤ w.heap.size + 1 + 1 by omega) (.int .i64 0) (.int .i64 0) (.int .i64 0) (.int .i64 0) (.slice none 0 0) (.slice none 0 0))
                clear hR
                go_wp2
                obtain ⟨⟨q0, q1, q2, q3, q4, q5⟩, -⟩ := HR6.out.six
                exact bodyPost_ret (v := .tuple #[tval zT none 0 none 0, .int .i64 5]) (by simp [results, Try.results55, go_sem, q0, q1, q2, q3, q4, q5, zT]) rfl ⟨none, 0, none, 0, by rw [E1.out, E2.out], by rw [E1.out]; exact Row.nil, by rw [E1.out]; exact Row.nil, HB6.out, newAt_none _, newAt_none _⟩
        · obtain ⟨hO, hany⟩ := HFIN.out hlt
          have hbe : BE = 0 := by rw [KBE.out, hany]; rfl
          subst hbe
          have HOE := hid hO
          clear hO hany HFIN HNO KCL KBE hst
          obtain ⟨W, hW⟩ : ∃ W : World, W = wr := ⟨_, rfl⟩
          subst hW
          have hxrW := HXR2.out.lt
          obtain ⟨cHXA2, fHXA2, sHXA2, nHXA2⟩ := HXA2.out.all
          try simp only [cbox] at cHXA2
          obtain ⟨cHXB2, fHXB2, sHXB2, nHXB2⟩ := HXB2.out.all
          try simp only [cbox] at cHXB2
          go_wp2_with fail
          -- STOP-d
          refine (KJ.out _ HBB.out).mono ?_
          rintro e w5 ⟨A5, k5, rfl, hrow5, hb5, hnew5⟩
          clear cHXA2 fHXA2 sHXA2 nHXA2
          clear cHXB2 fHXB2 sHXB2 nHXB2
          replace HXA2 := hid (HXA2.out.step hb5)
          replace HXB2 := hid (HXB2.out.step hb5)
          replace HXR2 := hid (HXR2.out.step hb5)
          replace HBB := hid (Below.step' HBB.out hb5)
          have HOWN5 := hid (own_laterS HOWN.out hb5)
          have HB5 := hid (Below.step' HB1.out hb5)
          have HROW := hid hrow5
          have HNEW := hid hnew5
          have hs5 := hb5.size
          clear hrow5 hnew5 hb5 HB1 KJ
          by_cases qJ : JE = 0
          rotate_left
          · have t1 : (JE != 0) = true := by simpa using qJ
            have EZ := hid qJ
            have HXR3 := hid (HXR2.out.alloc (.cells #[.int .i64 J.c0, .int .i64 J.c1, .int .i64 J.c2, .int .i64 J.c3, .slice A5 J.cloud.length k5] 25))
            have HBB3 := hid (alloc_below HBB.out (.cells #[.int .i64 J.c0, .int .i64 J.c1, .int .i64 J.c2, .int .i64 J.c3, .slice A5 J.cloud.length k5] 25))
            clear qJ
            go_upto_region 18 with fail
            -- STOP-e
            have E1 : Hid (R = zT) := hid (HX1.out (.inr (.inl EZ.out)))
            have E2 : Hid (RE = JE) := hid (by have e := HE.out; rw [if_neg (by simp), if_pos EZ.out] at e; exact e)
            have hR := HXR3.out
            obtain ⟨⟨r0, r1, r2, r3, r4, r5⟩, g0, g1, g2, g3, g4, g5⟩ := hR.six
            have HR6 := hid (Blk.set6 hR (.int .i64 0) (.int .i64 0) (.int .i64 0) (.int .i64 0) (.slice none 0 0) (.slice none 0 0))
            have HB6 := hid (Below.set6 HBB3.out (show w.heap.size ≤ w.heap.size + 1 + 1 by omega) (.int .i64 0) (.int .i64 0) (.int .i64 0) (.int .i64 0) (.slice none 0 0) (.slice none 0 0))
            clear hR
            go_wp2
            obtain ⟨⟨q0, q1, q2, q3, q4, q5⟩, -⟩ := HR6.out.six
            exact bodyPost_ret (v := .tuple #[tval zT none 0 none 0, .int .i64 JE]) (by simp [results, Try.results55, go_sem, q0, q1, q2, q3, q4, q5, zT]) rfl ⟨none, 0, none, 0, by rw [E1.out, E2.out], by rw [E1.out]; exact Row.nil, by rw [E1.out]; exact Row.nil, HB6.out, newAt_none _, newAt_none _⟩
          · subst qJ
            have HXJ := hid (Blk.new w5 #[.int .i64 J.c0, .int .i64 J.c1, .int .i64 J.c2, .int .i64 J.c3, .slice A5 J.cloud.length k5] 25)
            have HOWN6 := hid (HOWN5.out.alloc (.cells #[.int .i64 J.c0, .int .i64 J.c1, .int .i64 J.c2, .int .i64 J.c3, .slice A5 J.cloud.length k5] 25))
            go_wp2_with fail
            -- STOP-f
            refine (sortC_own cmpRM O _ HOWN6.out (by omega)).mono ?_
            rintro e w6 ⟨rfl, M, hperm, hpair, hown6, hg6⟩
            have hMl : M.length ≤ 800 := by rw [hperm.length_eq]; exact hol
            have hfil : M.filter rout = ML := KPM.out M (by rw [← HOE.out]; exact hperm) hpair (by first | rfl | trivial)
            have hown5 := HOWN5.out
            have hxj : Blk w6 w5.heap.size #[.int .i64 J.c0, .int .i64 J.c1, .int .i64 J.c2, .int .i64 J.c3, .slice A5 J.cloud.length k5] 25 := HXJ.out.grown' hg6 (own_ne_hi hown5 _ (Nat.le_refl _))
            have hrj : Row w6 w6.heap.size A5 (dcells J.cloud) := Row.two (HROW.out.alloc _) HNEW.out hg6 (fun g e => (HOWN.out.lt g e).2)
            have hb6 : Below w2.heap.size w2 w6 := below_grown (HB5.out.alloc HB5.out.size _) hg6 HOWN6.out (Nat.le_refl _)
            have HXJ6 := hid hxj
            have HRJ := hid hrj
            have HB6 := hid hb6
            have HXA6 := hid (HXA.out.step hb6)
            have HXB6 := hid (HXB.out.step hb6)
            have HXR6 := hid (HXR.out.step hb6)
            have HBB6 := hid (Below.step' HBW.out hb6)
            have hown6r := hown6
            rw [show M.length = O.length from hperm.length_eq] at hown6r
            have HRM := hid (Row.of_ownS hown6r)
            have HLEN : Hid (M.length = O.length) := hid hperm.length_eq
            clear hown6r
            have hs6 := hb6.size
            have hs7 := hxj.lt
            have HFI := hid hfil
            clear hperm hpair hfil hown5 hxj hrj hb6 hg6 hown6 HOWN5 HOWN6 HXJ HROW HB5 HXA2 HXB2 HXR2 HBB HOWN
            -- STOP-g
            go_wp2_with fail
            go_loopw [14, 15] (fun s14 s15 wr => ∃ i : Nat, i ≤ M.length ∧ s15 = .int .i64 i ∧ wr.ownsRow w6.heap.size 62 5 s14 ((M.take i).filter rout).length (tcells ((M.take i).filter rout)) ∧ Below w6.heap.size w6 wr) (fun _ s15 _ => M.length - (intOf s15).toNat)
            case atStart => exact ⟨0, by omega, rfl, World.ownsRow_nil _ _ _ _, Below.refl _ _⟩
            case round =>
              obtain ⟨i, hi, rfl, hown, hbw⟩ := hrel
              have hst : ∀ hj : i < M.length, (M.take (i + 1)).filter rout = (M.take i).filter rout ++ (if rout M[i] = true then [M[i]] else []) := by
                intro hj
                rw [List.take_succ_eq_append_getElem hj, List.filter_append, List.filter_cons, List.filter_nil]
              have hol2 : ((M.take i).filter rout).length ≤ 800 := by
                have := List.length_filter_le rout (M.take i)
                rw [List.length_take] at this
                omega
              have hfin : ¬ i < M.length → (M.take i).filter rout = ML := fun h => by
                rw [List.take_of_length_le (by omega)]; exact HFI.out
              obtain ⟨O2, hO2⟩ : ∃ O, O = (M.take i).filter rout := ⟨_, rfl⟩
              rw [← hO2] at hown hst hol2 hfin
              clear hO2
              obtain ⟨A8', c8', rfl⟩ := own_formS hown
              have HOWN := hid hown
              have HB1 := hid hbw
              have HBB := hid (Below.step' HBB6.out hbw)
              have HXA7 := hid (HXA6.out.step hbw)
              have HXB7 := hid (HXB6.out.step hbw)
              have HXR7 := hid (HXR6.out.step hbw)
              have HFIN := hid hfin
              have hs8 := hbw.size
              clear hown hbw hfin
              by_cases hlt : i < M.length
              · have hltO : i < O.length := by have := HLEN.out; omega
                obtain ⟨b1, off1, hA, hb1, e0, e1, e2, e3, e4⟩ := (HRM.out.step HB1.out).cel hlt
                have HST := hid (hst hlt)
                clear hst HFIN
                obtain ⟨b, off, hA0, hb, -⟩ := HRM.out.cel hlt
                subst hA0
                injection hA with hA
                injection hA with hA1 hA2 hA3
                subst hA1 hA2
                generalize M[i] = x at *
                obtain ⟨⟨d0, d1⟩, ky, co, vl⟩ := x
                simp only at e0 e1 e2 e3 e4
                have hro := HRO.out ⟨(d0, d1), ky, co, vl⟩
                have HCC := hid (HCA.out (d0, d1))
                have HCD := hid (HCB.out (d0, d1))
                have hha := HHA.out (d0, d1)
                have hhb := HHB.out (d0, d1)
                simp only [dval] at HCC HCD hro hha hhb
                obtain ⟨XA, hXA⟩ : ∃ X, X = cellX l (d0, d1) := ⟨_, rfl⟩
                obtain ⟨XB, hXB⟩ : ∃ X, X = cellX l' (d0, d1) := ⟨_, rfl⟩
                obtain ⟨bx, hbx⟩ : ∃ bx, bx = cellB l (d0, d1) := ⟨_, rfl⟩
                obtain ⟨by', hby⟩ : ∃ bx, bx = cellB l' (d0, d1) := ⟨_, rfl⟩
                obtain ⟨ua, hua⟩ : ∃ bx, bx = hasB ⟨c0, c1, c2, c3, cl⟩ (d0, d1) := ⟨_, rfl⟩
                obtain ⟨ub, hub⟩ : ∃ bx, bx = hasB ⟨f0, f1, f2, f3, fl⟩ (d0, d1) := ⟨_, rfl⟩
                rw [← hXA, ← hbx] at HCC
                rw [← hXB, ← hby] at HCD
                rw [← hbx, ← hby, ← hua, ← hub] at hro
                rw [← hua] at hha
                rw [← hub] at hhb
                have HRQ := hid hro
                have KHA := hid hha
                have KHB := hid hhb
                clear hXA hXB hbx hby hua hub hro hha hhb
                obtain ⟨⟨y0, y1⟩, y2, y3, y4⟩ := XA
                obtain ⟨⟨u0, u1⟩, u2, u3, u4⟩ := XB
                simp only [celv] at HCC HCD
                obtain ⟨W2, hW⟩ : ∃ W : World, W = wr := ⟨_, rfl⟩
                subst hW
                have hbW : b < W2.heap.size := by omega
                obtain ⟨cHXA7, fHXA7, sHXA7, nHXA7⟩ := HXA7.out.all
                try simp only [cbox] at cHXA7
                -- STOP-h
                go_upto_region 24 with fail
                go_cut [17] from 95 to 103 (fun s17 wx => s17 = .bool bx ∧ Below W2.heap.size W2 wx)
                case first =>
                  go_region_held3 (fun w' => (∀ b o, b < W2.heap.size → w'.cell? ⟨b, o, none⟩ = W2.cell? ⟨b, o, none⟩) ∧ Below W2.heap.size W2 w')
                    ((go_split_ands; refine keepS ?_; first | (with_reducible assumption) | (with_reducible exact (Below.refl _ _).drew) | (with_reducible exact (alloc_below (Below.refl _ _) _).drew) | (with_reducible refine alloc_below ?_ _; with_reducible assumption) | (with_reducible refine Below.drew (alloc_below ?_ _); with_reducible assumption) | (with_reducible refine Below.set5 ?_ ?_ _ _ _ _ _; with_reducible assumption; first | exact Nat.le_refl _ | (refine Below.size (B := W2.heap.size) (w := W2) ?_; with_reducible assumption))))
                    ((go_split_ands; go_at_call 90; (with_reducible refine (HCC.out _ (Below.step' HBB.out (by with_reducible assumption))).mono ?_); rintro e w5 ⟨rfl, hb5⟩; have hB5 := Below.step' (by with_reducible assumption : Below W2.heap.size W2 _) hb5; (try have x5 := Blk.step (show Blk (World.drew (W2.alloc (.cells #[.int .i64 0, .int .i64 0, .int .i64 0, .int .i64 0, .int .i64 0] 62))) W2.heap.size #[.int .i64 0, .int .i64 0, .int .i64 0, .int .i64 0, .int .i64 0] 62 from Blk.new W2 #[.int .i64 0, .int .i64 0, .int .i64 0, .int .i64 0, .int .i64 0] 62) hb5); (try obtain ⟨⟨cx0, cx1, cx2, cx3, cx4⟩, fx0, fx1, fx2, fx3, fx4⟩ := x5.five)))
                  -- STOP-i
                  · go_wp2
                    go_meet
                    case rel => exact ⟨rfl, alloc_below hB5 _⟩
                  all_goals
                    go_wp2
                    go_meet
                    case rel => exact ⟨rfl, Below.set5 hB5 (Nat.le_refl _) _ _ _ _ _⟩
                case rest =>
                  clear cHXA7 fHXA7 sHXA7 nHXA7
                  obtain ⟨rfl, hb5⟩ := hcut
                  obtain ⟨W3, rfl⟩ : ∃ wx : World, wx = wc := ⟨_, rfl⟩
                  have HBB3 := hid (Below.step' HBB.out hb5)
                  have HXB8 := hid (HXB7.out.step hb5)
                  have HXA8 := hid (HXA7.out.step hb5)
                  have HXR8 := hid (HXR7.out.step hb5)
                  have HOWN3 := hid (own_laterS HOWN.out hb5)
                  have HB3 := hid (Below.step' HB1.out hb5)
                  have e0' := ((bcell hb5).1 _ _ hbW).trans e0
                  have e1' := ((bcell hb5).1 _ _ hbW).trans e1
                  have e2' := ((bcell hb5).1 _ _ hbW).trans e2
                  have e3' := ((bcell hb5).1 _ _ hbW).trans e3
                  have e4' := ((bcell hb5).1 _ _ hbW).trans e4
                  have hs9 := hb5.size
                  clear hbW
                  have hbW : b < W3.heap.size := by omega
                  clear e0 e1 e2 e3 e4 hb5 HXA7 HXB7 HXR7 HBB HOWN HB1
                  obtain ⟨cHXB8, fHXB8, sHXB8, nHXB8⟩ := HXB8.out.all
                  try simp only [cbox] at cHXB8
                  go_upto_region 25 with fail
                  go_cut [19] from 105 to 113 (fun s19 wx => s19 = .bool by' ∧ Below W3.heap.size W3 wx)
                  case first =>
                    go_region_held3 (fun w' => (∀ b o, b < W3.heap.size → w'.cell? ⟨b, o, none⟩ = W3.cell? ⟨b, o, none⟩) ∧ Below W3.heap.size W3 w')
                      ((go_split_ands; refine keepS ?_; first | (with_reducible assumption) | (with_reducible exact (Below.refl _ _).drew) | (with_reducible exact (alloc_below (Below.refl _ _) _).drew) | (with_reducible refine alloc_below ?_ _; with_reducible assumption) | (with_reducible refine Below.drew (alloc_below ?_ _); with_reducible assumption) | (with_reducible refine Below.set5 ?_ ?_ _ _ _ _ _; with_reducible assumption; first | exact Nat.le_refl _ | (refine Below.size (B := W3.heap.size) (w := W3) ?_; with_reducible assumption))))
                      ((go_split_ands; go_at_call 90; (with_reducible refine (HCD.out _ (Below.step' HBB3.out (by with_reducible assumption))).mono ?_); rintro e w5 ⟨rfl, hb5⟩; have hB5 := Below.step' (by with_reducible assumption : Below W3.heap.size W3 _) hb5; (try have x5 := Blk.step (show Blk (World.drew (W3.alloc (.cells #[.int .i64 0, .int .i64 0, .int .i64 0, .int .i64 0, .int .i64 0] 62))) W3.heap.size #[.int .i64 0, .int .i64 0, .int .i64 0, .int .i64 0, .int .i64 0] 62 from Blk.new W3 #[.int .i64 0, .int .i64 0, .int .i64 0, .int .i64 0, .int .i64 0] 62) hb5); (try obtain ⟨⟨cx0, cx1, cx2, cx3, cx4⟩, fx0, fx1, fx2, fx3, fx4⟩ := x5.five)))
                    · go_wp2
                      go_meet
                      case rel => exact ⟨rfl, alloc_below hB5 _⟩
                    all_goals
                      go_wp2
                      go_meet
                      case rel => exact ⟨rfl, Below.set5 hB5 (Nat.le_refl _) _ _ _ _ _⟩
                  case rest =>
                    clear cHXB8 fHXB8 sHXB8 nHXB8
                    obtain ⟨rfl, hb5⟩ := hcut
                    obtain ⟨W4, rfl⟩ : ∃ wx : World, wx = wc := ⟨_, rfl⟩
                    have HBB4 := hid (Below.step' HBB3.out hb5)
                    have HXB9 := hid (HXB8.out.step hb5)
                    have HXA9 := hid (HXA8.out.step hb5)
                    have HXR9 := hid (HXR8.out.step hb5)
                    have HOWN4 := hid (own_laterS HOWN3.out hb5)
                    have HB4 := hid (Below.step' HB3.out hb5)
                    have f0 := ((bcell hb5).1 _ _ hbW).trans e0'
                    have f1 := ((bcell hb5).1 _ _ hbW).trans e1'
                    have f2 := ((bcell hb5).1 _ _ hbW).trans e2'
                    have f3 := ((bcell hb5).1 _ _ hbW).trans e3'
                    have f4 := ((bcell hb5).1 _ _ hbW).trans e4'
                    have hs10 := hb5.size
                    clear hbW
                    have hbW : b < W4.heap.size := by omega
                    have HE0 := hid f0
                    have HE1 := hid f1
                    have HE2 := hid f2
                    have HE3 := hid f3
                    have HE4 := hid f4
                    have JHA := hid (fun w1 (hb : Below W4.heap.size W4 w1) => KHA.out w1 (Below.step' HBB4.out hb))
                    have JHB := hid (fun w1 (hb : Below W4.heap.size W4 w1) => KHB.out w1 (Below.step' HBB4.out hb))
                    clear e0' e1' e2' e3' e4' hb5 HXA8 HXB8 HXR8 HBB3 HOWN3 HB3 f2 f3 f4 KHA KHB
                    -- STOP-j
                    obtain ⟨cHXA9, fHXA9, sHXA9, nHXA9⟩ := HXA9.out.all
                    try simp only [cbox] at cHXA9
                    obtain ⟨cHXB9, fHXB9, sHXB9, nHXB9⟩ := HXB9.out.all
                    try simp only [cbox] at cHXB9
                    go_upto_region 26 with fail
                    go_cut [145] from 114 to 145 (fun s wx => s = .bool ((bx && by' || bx && !ub) || by' && !ua) ∧ Below W4.heap.size W4 wx)
                    case first =>
                      cases bx
                      · cases by'
                        · go_wp2
                          refine region_ext (by kernel_rfl) (by kernel_rfl) (fun hext => ?_)
                          repeat (any_goals ((with_reducible refine wpQuiet_step (fun K hK => ?_)); go_simp; first | (with_reducible refine hK _ ?_; clear hK K) | ((with_reducible apply Exists.intro); (with_reducible refine ⟨fun _ => ?_, hK _ ?_⟩); (fail); clear hK K) | ((with_reducible refine (if_neg ?_).mpr (hK _ ?_)); (decide); clear hK K) | (split <;> (with_reducible refine hK _ ?_; clear hK K))))
                          all_goals ((with_reducible refine wpQuiet_nil ?_); clear hext; intro w1 hx1; have hb1 := ext_below hx1; clear hx1)
                          go_wp2
                          go_meet
                          case rel => exact ⟨rfl, hb1⟩
                        · cases ua
                          all_goals
                            go_wp2
                            refine region_ext (by kernel_rfl) (by kernel_rfl) (fun hext => ?_)
                            repeat (any_goals ((with_reducible refine wpQuiet_step (fun K hK => ?_)); go_simp; first | (with_reducible refine hK _ ?_; clear hK K) | ((with_reducible apply Exists.intro); (with_reducible refine ⟨fun _ => ?_, hK _ ?_⟩); (go_at_call 26; exact ext_call _ (Nat.le_refl _) (JHA.out _ (Ext.below _))); clear hK K) | ((with_reducible refine (if_neg ?_).mpr (hK _ ?_)); (decide); clear hK K) | (split <;> (with_reducible refine hK _ ?_; clear hK K))))
                            all_goals ((with_reducible refine wpQuiet_nil ?_); clear hext; intro w1 hx1; have hb1 := ext_below hx1; clear hx1)
                            go_wp2
                            go_meet
                            case rel => exact ⟨rfl, hb1⟩
                      · cases by'
                        · cases ub
                          all_goals
                            go_wp2
                            refine region_ext (by kernel_rfl) (by kernel_rfl) (fun hext => ?_)
                            repeat (any_goals ((with_reducible refine wpQuiet_step (fun K hK => ?_)); go_simp; first | (with_reducible refine hK _ ?_; clear hK K) | ((with_reducible apply Exists.intro); (with_reducible refine ⟨fun _ => ?_, hK _ ?_⟩); (go_at_call 26; exact ext_call _ (Nat.le_refl _) (JHB.out _ (Ext.below _))); clear hK K) | ((with_reducible refine (if_neg ?_).mpr (hK _ ?_)); (decide); clear hK K) | (split <;> (with_reducible refine hK _ ?_; clear hK K))))
                            all_goals ((with_reducible refine wpQuiet_nil ?_); clear hext; intro w1 hx1; have hb1 := ext_below hx1; clear hx1)
                            go_wp2
                            go_meet
                            case rel => exact ⟨rfl, hb1⟩
                        · go_wp2
                          refine region_ext (by kernel_rfl) (by kernel_rfl) (fun hext => ?_)
                          repeat (any_goals ((with_reducible refine wpQuiet_step (fun K hK => ?_)); go_simp; first | (with_reducible refine hK _ ?_; clear hK K) | ((with_reducible apply Exists.intro); (with_reducible refine ⟨fun _ => ?_, hK _ ?_⟩); (fail); clear hK K) | ((with_reducible refine (if_neg ?_).mpr (hK _ ?_)); (decide); clear hK K) | (split <;> (with_reducible refine hK _ ?_; clear hK K))))
                          all_goals ((with_reducible refine wpQuiet_nil ?_); clear hext; intro w1 hx1; have hb1 := ext_below hx1; clear hx1)
                          go_wp2
                          go_meet
                          case rel => exact ⟨rfl, hb1⟩
                    case rest =>
                      clear cHXA9 fHXA9 sHXA9 nHXA9
                      clear cHXB9 fHXB9 sHXB9 nHXB9
                      obtain ⟨rfl, hb6⟩ := hcut
                      obtain ⟨W5, rfl⟩ : ∃ wx : World, wx = wc := ⟨_, rfl⟩
                      rw [← HRQ.out]
                      have HOWN5 := hid (own_laterS HOWN4.out hb6)
                      have HB5 := hid (Below.step' HB4.out hb6)
                      have e0 := ((bcell hb6).1 _ _ hbW).trans HE0.out
                      have e1 := ((bcell hb6).1 _ _ hbW).trans HE1.out
                      have e2 := ((bcell hb6).1 _ _ hbW).trans HE2.out
                      have e3 := ((bcell hb6).1 _ _ hbW).trans HE3.out
                      have e4 := ((bcell hb6).1 _ _ hbW).trans HE4.out
                      have hs11 := hb6.size
                      have hneb : (b = W5.heap.size) = False := by simp; omega
                      have HBB5 := hid (Below.step' HBB4.out hb6)
                      clear hb6 f0 f1 HXA9 HXB9 HXR9 HBB4 HOWN4 HB4 JHA JHB
                      -- STOP-k
                      cases hrt : rout ⟨(d0, d1), ky, co, vl⟩
                      · have HRT := hid hrt
                        clear hrt
                        go_wp2_with fail
                        go_roundw
                        case rel =>
                          refine ⟨i + 1, by omega, by go_num, ?_, HB5.out⟩
                          rw [HST.out, HRT.out, if_neg (by simp), List.append_nil]
                          exact HOWN5.out
                        case measure => simp [intOf]; omega
                      · have HRT := hid hrt
                        clear hrt
                        go_wp2_with (at_builtin; refine wpList_append_own _ rfl _ _ 57 rfl w6.heap.size 62 i0 _ 5 40 Try.underlying57 hi0 hz0 hz1 hz2 rfl (by decide) _ _ _ rfl (HOWN5.out.alloc _) ⟨W5.heap.size, 0, none⟩ 1 1 (tcells [⟨(d0, d1), ky, co, vl⟩]) rfl rfl (newsT W5 ⟨(d0, d1), ky, co, vl⟩ _ _ rfl) (tcells_one _) ?_ ?_ ?_ ?_; rotate_right; intro v6 w7 hown7 hg7 hif7; clear hif7; rotate_left; (simp only [maxLen]; omega); (omega); (simp; omega))
                        go_roundw
                        case rel =>
                          refine ⟨i + 1, by omega, by go_num, ?_, (HB5.out.alloc (by omega) _).grown hg7 (by simp; omega) (fun g e => (HOWN5.out.lt g e).1)⟩
                          rw [HST.out, HRT.out, if_pos rfl, tcells_snoc]
                          simpa using hown7
                        case measure => simp [intOf]; omega
              · have hltO : ¬ i < O.length := by have := HLEN.out; omega
                have hf := HFIN.out hlt
                subst hf
                have hxr7 := HXR7.out.lt
                clear hst HFIN hlt
                by_cases hbig : 400 < O2.length
                · have t1 : (400 : Int) < (O2.length : Int) := by omega
                  have EZ := hid hbig
                  clear hbig
                  -- STOP-l
                  have E1 : Hid (R = zT) := hid (HX1.out (.inr (.inr EZ.out)))
                  have E2 : Hid (RE = 2) := hid (by have e := HE.out; rw [if_neg (by simp), if_neg (by simp), if_pos EZ.out] at e; exact e)
                  have hR := HXR7.out
                  obtain ⟨⟨r0, r1, r2, r3, r4, r5⟩, g0, g1, g2, g3, g4, g5⟩ := hR.six
                  have HR6 := hid (Blk.set6 hR (.int .i64 0) (.int .i64 0) (.int .i64 0) (.int .i64 0) (.slice none 0 0) (.slice none 0 0))
                  have HB6 := hid (Below.set6 HBB.out (show w.heap.size ≤ w.heap.size + 1 + 1 by omega) (.int .i64 0) (.int .i64 0) (.int .i64 0) (.int .i64 0) (.slice none 0 0) (.slice none 0 0))
                  clear hR
                  go_wp2
                  obtain ⟨⟨q0, q1, q2, q3, q4, q5⟩, -⟩ := HR6.out.six
                  exact bodyPost_ret (v := .tuple #[tval zT none 0 none 0, .int .i64 2]) (by simp [results, Try.results55, go_sem, q0, q1, q2, q3, q4, q5, zT]) rfl ⟨none, 0, none, 0, by rw [E1.out, E2.out], by rw [E1.out]; exact Row.nil, by rw [E1.out]; exact Row.nil, HB6.out, newAt_none _, newAt_none _⟩
                · have t1 : (O2.length : Int) ≤ 400 := by omega
                  have E1 := hid (HX2.out (by first | rfl | trivial) (by first | rfl | trivial) hbig)
                  have E2 : Hid (RE = 0) := hid (by have e := HE.out; rw [if_neg (by simp), if_neg (by simp), if_neg hbig] at e; exact e)
                  clear hbig
                  have HXJ7 := hid (HXJ6.out.step HB1.out)
                  have hxj := HXJ7.out.lt
                  have hR := HXR7.out
                  have hro := Row.of_ownS HOWN.out
                  have hne : NewAt w6.heap.size A8' := own_newS HOWN.out (Nat.le_refl _)
                  have hra := HRJ.out.step HB1.out
                  obtain ⟨⟨r0, r1, r2, r3, r4, r5⟩, g0, g1, g2, g3, g4, g5⟩ := hR.six
                  obtain ⟨⟨x0, x1, x2, x3, x4⟩, -⟩ := HXJ7.out.five
                  have HR6 := hid (Blk.set6 hR (.int .i64 J.c0) (.int .i64 J.c1) (.int .i64 J.c2) (.int .i64 J.c3) (.slice A5 J.cloud.length k5) (.slice A8' O2.length c8'))
                  have HB6' := hid (Below.set6 HBB.out (show w.heap.size ≤ w.heap.size + 1 + 1 by omega) (.int .i64 J.c0) (.int .i64 J.c1) (.int .i64 J.c2) (.int .i64 J.c3) (.slice A5 J.cloud.length k5) (.slice A8' O2.length c8'))
                  have HROW1 := hid (Row.set6 hra HNEW.out (show w.heap.size + 1 + 1 < W.heap.size by omega) (.int .i64 J.c0) (.int .i64 J.c1) (.int .i64 J.c2) (.int .i64 J.c3) (.slice A5 J.cloud.length k5) (.slice A8' O2.length c8'))
                  have HROW2 := hid (Row.set6 hro hne (show w.heap.size + 1 + 1 < w6.heap.size by omega) (.int .i64 J.c0) (.int .i64 J.c1) (.int .i64 J.c2) (.int .i64 J.c3) (.slice A5 J.cloud.length k5) (.slice A8' O2.length c8'))
                  have HNE := hid hne
                  have hq1 : w.heap.size ≤ W.heap.size := by omega
                  clear hR hro hne hra
                  -- STOP-m
                  go_wp2
                  obtain ⟨⟨q0, q1, q2, q3, q4, q5⟩, -⟩ := HR6.out.six
                  exact bodyPost_ret (v := .tuple #[tval ⟨J, O2⟩ A5 k5 A8' c8', .int .i64 0]) (by simp [results, Try.results55, go_sem, q0, q1, q2, q3, q4, q5]) rfl
                    ⟨A5, k5, A8', c8', by rw [E1.out, E2.out], by rw [E1.out]; exact HROW1.out, by rw [E1.out]; exact HROW2.out, HB6'.out, fun b off q e => Nat.le_trans hq1 (HNEW.out b off q e), fun b off q e => Nat.le_trans (by omega) (HNE.out b off q e)⟩
end Go.Proofs.Ytogegnikpjcpdaa
/- viewref.Since: what its loops gather (plain). -/
namespace Go.Proofs.Ytogegnikpjcpdaa
set_option linter.unusedVariables false

theorem gone_has {g : List (Int × Int)} {d : Int × Int} (h : 1 ≤ d.2) : hasB ⟨0, 0, 0, 0, g⟩ d = decide (d ∈ g) := by
  obtain ⟨n, s⟩ := d
  refine hasB_no fun _ _ _ => ?_
  simp only [Ctx.at_] at h ⊢
  split <;> (try split) <;> (try split) <;> omega
theorem hole_again (n : Int) (g : List (Int × Int)) (k : Int) : g.foldl (holeStep n) (g.foldl (holeStep n) k) = g.foldl (holeStep n) k := by
  obtain ⟨h1, h2, -⟩ := hole_fold n g k
  obtain ⟨r1, -, r3⟩ := hole_fold n g (g.foldl (holeStep n) k)
  rcases r3 with h | h
  · exact h
  · have := h2 _ h rfl
    simp only at this
    omega
/-- What one look through the dots that go tells: from the clock or from the hole, the hole. -/
theorem hole_look (c : Ctx) (g : List (Int × Int)) (n : Int) {x : Int} (h : x = c.at_ n ∨ x = holeN c g n) : g.foldl (holeStep n) x = holeN c g n := by
  rcases h with rfl | rfl
  · rfl
  · exact hole_again n g _
theorem hole_take {g : List (Int × Int)} (n x : Int) {j : Nat} (hj : j < g.length) : (g.take (j + 1)).foldl (holeStep n) x = holeStep n ((g.take j).foldl (holeStep n) x) g[j] := by
  rw [List.take_succ_eq_append_getElem hj, List.foldl_append]; rfl
theorem since_clk (c : Ctx) {g : List (Int × Int)} {i : Int} (h0 : 0 ≤ i) (h4 : i < 4) (hc : 0 ≤ c.at_ i) (hg : ∀ d ∈ g, 1 ≤ d.2) (j : Nat) :
    clkDots c (holeC c g) i (j + 1) = clkDots c (holeC c g) i j ++ (if hasB ⟨0, 0, 0, 0, g⟩ (i, holeN c g i + 1 + (j : Int)) = true then [] else [(i, holeN c g i + 1 + (j : Int))]) := by
  have hp := hole_pos (n := i) hc hg
  rw [clkDots_succ, hole_at c g h0 h4, hole_has (d := (i, holeN c g i + 1 + (j : Int))) h0 h4 (by simp only; omega), gone_has (by simp only; omega)]
theorem since_cld {c : Ctx} (g : List (Int × Int)) (hc : okC c) (n : Int) : cldMiss c (holeC c g) n = c.cloud.filter (fun d => decide (d.1 = n) && !hasB ⟨0, 0, 0, 0, g⟩ d) := by
  rw [cld_node g hc]
  exact List.filter_congr fun d hd => by rw [gone_has (right_iff.1 (hc.2.1 d hd).1).2.2.1]
theorem missUp_step (c b : Ctx) (i : Nat) : missUp c b (i + 1) = missUp c b i ++ (clkDots c b i (c.at_ i - b.at_ i).toNat).take (401 - (missUp c b i).length) ++ cldMiss c b i := rfl
theorem since_end (c : Ctx) (g : List (Int × Int)) : (400 < (missR c (holeC c g)).length → woE c g = 2) ∧ (¬ 400 < (missR c (holeC c g)).length → woE c g = 0 ∧ missR c (holeC c g) = woL c g) := by
  by_cases h : (woL c g).length ≤ 400
  · have e : missR c (holeC c g) = woL c g := missR_eq _ _ h
    rw [e]
    refine ⟨fun q => by omega, fun _ => ⟨?_, rfl⟩⟩
    unfold woE; rw [if_neg (by omega)]
  · have e := missR_big c (holeC c g) (by unfold woL at h; omega)
    refine ⟨fun q => ?_, fun q => absurd e q⟩
    unfold woE; rw [if_pos (by omega)]
theorem at_cell6 (c : Ctx) (n : Int) (h0 : 0 ≤ n) (h4 : n < 4) (u v : Value) : (#[.int .i64 c.c0, .int .i64 c.c1, .int .i64 c.c2, .int .i64 c.c3, u, v] : Array Value)[n.toNat]? = some (.int .i64 (c.at_ n)) := by
  rcases (by omega : n = 0 ∨ n = 1 ∨ n = 2 ∨ n = 3) with h | h | h | h <;> subst h <;> rfl
/-- The clock, as far as it is told. -/
def kbx (h : Int → Int) (i : Nat) : Array Value := #[.int .i64 (if 0 < i then h 0 else 0), .int .i64 (if 1 < i then h 1 else 0), .int .i64 (if 2 < i then h 2 else 0), .int .i64 (if 3 < i then h 3 else 0)]
theorem kbx_set (h : Int → Int) {i : Nat} (hi : i < 4) : (kbx h i).setIfInBounds i (.int .i64 (h i)) = kbx h (i + 1) := by
  rcases (by omega : i = 0 ∨ i = 1 ∨ i = 2 ∨ i = 3) with e | e | e | e <;> subst e <;> simp [kbx]
theorem kbx_zero (h : Int → Int) : kbx h 0 = #[.int .i64 0, .int .i64 0, .int .i64 0, .int .i64 0] := by simp [kbx]
theorem kbx_at (h : Int → Int) {i : Nat} (hi : i < 4) : ∃ x, (kbx h i)[i]? = some (.int .i64 x) := by
  rcases (by omega : i = 0 ∨ i = 1 ∨ i = 2 ∨ i = 3) with e | e | e | e <;> subst e <;> exact ⟨_, rfl⟩
theorem kbx_four (h : Int → Int) : kbx h 4 = #[.int .i64 (h 0), .int .i64 (h 1), .int .i64 (h 2), .int .i64 (h 3)] := by simp [kbx]
end Go.Proofs.Ytogegnikpjcpdaa
