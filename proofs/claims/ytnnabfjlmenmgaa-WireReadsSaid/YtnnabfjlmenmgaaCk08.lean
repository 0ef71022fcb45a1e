/- Wn, We, Wc, Wy, OpenP -/
import Derived.Test.YtnnabfjlmenmgaaCk07
import Derived.Test.YtnnabfjlmenmgaaCk06
import Derived.OpenShut
import Derived.ChangeMaps5
/- wire.numbers. -/
namespace Go.Proofs.Ytnnabfjlmenmgaa
set_option linter.unusedVariables false
set_option linter.unusedSimpArgs false
open Go.ChangeShapes Go.WideShapes Go.ChangeAt Go.RowKit

abbrev ncl (l : List Int) : List Value := l.map (Value.int .i64)
theorem ncl_one (l : List Int) : ∀ u ∈ ncl l, u.oneCell' = true := by
  intro u hu
  obtain ⟨x, -, rfl⟩ := List.mem_map.1 hu
  rfl
theorem ncl_app (a b : List Int) : ncl (a ++ b) = ncl a ++ ncl b := List.map_append
theorem ncl_len (a : List Int) : (ncl a).length = a.length := List.length_map ..
theorem elem_num : Elem Try.prog 58 3 1 8 := ⟨Try.underlying58, by
  obtain ⟨i, hi, hz, hs, hb⟩ := info_parts (P := Try.prog) (e := 3) (z := .int .i64 0) (size := 1) (bytes := 8) (by kernel_rfl)
  exact ⟨i, _, hi, hz, hs, hb, rfl⟩, by decide⟩
theorem Row.num {w : World} {B : Nat} {A : Option Addr} {l : List Int} (h : Row w B A (ncl l)) {k : Nat} (hk : k < l.length) :
    ∃ b off, A = some ⟨b, off, none⟩ ∧ b < B ∧ w.cell? ⟨b, off + k, none⟩ = some (.int .i64 l[k]) := by
  obtain ⟨b, off, h1, h2, h3⟩ := h.at_ (show 0 < (ncl l).length by simp; omega)
  exact ⟨b, off, h1, h2, h3 k _ (by simp [hk])⟩
theorem Row.cel5 {w : World} {B : Nat} {A : Option Addr} {l : List Cel} (h : Row w B A (tcells l)) {k : Nat} (hk : k < l.length) :
    ∃ b off, A = some ⟨b, off, none⟩ ∧ b < B ∧ w.cell? ⟨b, off + k * 5, none⟩ = some (.int .i64 l[k].d.1) ∧ w.cell? ⟨b, off + k * 5 + 1, none⟩ = some (.int .i64 l[k].d.2) ∧ w.cell? ⟨b, off + k * 5 + 2, none⟩ = some (.int .i64 l[k].key) ∧
      w.cell? ⟨b, off + k * 5 + 3, none⟩ = some (.int .i64 l[k].col) ∧ w.cell? ⟨b, off + k * 5 + 4, none⟩ = some (.int .i64 l[k].val) := by
  obtain ⟨b, off, h1, h2, h3⟩ := Row.flat Cel.len h (by omega) hk
  exact ⟨b, off, h1, h2, h3 0 _ rfl, h3 1 _ rfl, h3 2 _ rfl, h3 3 _ rfl, h3 4 _ rfl⟩
/-- The numbers as far as the i-th dot; as far as the i-th cell. -/
def numsD (t : Tab) (i : Nat) : List Int := [t.c.c0, t.c.c1, t.c.c2, t.c.c3] ++ ((t.c.cloud.length : Int) :: (t.c.cloud.take i).flatMap dotNs)
def numsC (t : Tab) (i : Nat) : List Int := numsD t t.c.cloud.length ++ ((t.cells.length : Int) :: (t.cells.take i).flatMap celNs)
theorem numsD_succ (t : Tab) (i : Nat) (h : i < t.c.cloud.length) : numsD t (i + 1) = numsD t i ++ [t.c.cloud[i].1, t.c.cloud[i].2] := by
  unfold numsD
  rw [List.take_succ_eq_append_getElem h, List.flatMap_append]
  simp [dotNs]
theorem numsC_succ (t : Tab) (i : Nat) (h : i < t.cells.length) : numsC t (i + 1) = numsC t i ++ celNs t.cells[i] := by
  unfold numsC
  rw [List.take_succ_eq_append_getElem h, List.flatMap_append]
  simp
theorem numsC_all (t : Tab) : numsC t t.cells.length = numsT t := by
  unfold numsC numsD numsT
  rw [List.take_length, List.take_length]
theorem numsD_len (t : Tab) (i : Nat) : (numsD t i).length ≤ 5 + 2 * i := by
  unfold numsD
  have : ((t.c.cloud.take i).flatMap dotNs).length ≤ 2 * i := by
    rw [flat_len (n := 2) (fun _ => rfl), List.length_take]; omega
  simp only [List.length_append, List.length_cons, List.length_nil]
  omega
theorem numsC_len (t : Tab) (i : Nat) : (numsC t i).length ≤ 6 + 2 * t.c.cloud.length + 5 * i := by
  unfold numsC
  have h1 := numsD_len t t.c.cloud.length
  have : ((t.cells.take i).flatMap celNs).length ≤ 5 * i := by
    rw [flat_len (n := 5) (fun _ => rfl), List.length_take]; omega
  simp only [List.length_append, List.length_cons]
  omega

set_option maxHeartbeats 1000000 in
set_option maxRecDepth 100000 in
theorem numbers_any (t : Tab) (A : Option Addr) (k : Nat) (B : Option Addr) (m : Nat) (w : World) (ra : Row w w.heap.size A (dcells t.c.cloud)) (la : t.c.cloud.length ≤ 400)
    (rb : Row w w.heap.size B (tcells t.cells)) (lb : t.cells.length ≤ 400) :
    Calls Try.prog 24 #[tval t A k B m] w fun e w' => ∃ A' c', e = .returned (.slice A' (numsT t).length c') ∧ w'.ownsRow w.heap.size 3 1 (.slice A' (numsT t).length c') (numsT t).length (ncl (numsT t)) ∧ Below w.heap.size w w' := by
  have HA := hid ra
  have HB := hid rb
  have HND := hid (numsD_succ t)
  have HNC := hid (numsC_succ t)
  have HNA := hid (numsC_all t)
  have HLD := hid (numsD_len t)
  have HLC := hid (numsC_len t)
  have HD0 := hid (show numsD t 0 = [t.c.c0, t.c.c1, t.c.c2, t.c.c3] ++ [(t.c.cloud.length : Int)] by unfold numsD; simp)
  have HC0 := hid (show numsC t 0 = numsD t t.c.cloud.length ++ [(t.cells.length : Int)] by unfold numsC; simp)
  clear ra rb
  obtain ⟨D, hD⟩ : ∃ q, q = numsD t := ⟨_, rfl⟩
  obtain ⟨C, hC⟩ : ∃ q, q = numsC t := ⟨_, rfl⟩
  obtain ⟨NT, hNT⟩ : ∃ q, q = numsT t := ⟨_, rfl⟩
  rw [← hD] at HND HLD HD0 HC0
  rw [← hC] at HNC HNA HLC HC0
  rw [← hNT] at HNA ⊢
  clear hD hC hNT
  obtain ⟨⟨c0, c1, c2, c3, cl⟩, l⟩ := t
  simp only [tval] at HA HB HND HNC HNA HLC HD0 HC0 la lb ⊢
  obtain ⟨W, hW⟩ : ∃ W : World, W = w.alloc (.cells #[.int .i64 c0, .int .i64 c1, .int .i64 c2, .int .i64 c3, .slice A cl.length k, .slice B l.length m] 28) := ⟨_, rfl⟩
  have HBW := hid (show Below w.heap.size w W by rw [hW]; (repeat' (first | (with_reducible exact Below.refl _ _) | (with_reducible assumption) | (with_reducible refine below_drewN ?_ _) | (with_reducible refine Below.drew ?_) | (with_reducible refine Below.alloc ?_ ?_ _) | (with_reducible refine Below.setCell ?_ ?_ _) | (refine Below.trans ?_ (Below.mono (by assumption) ?_)) | go_size)))
  have HXA := hid (show Blk W w.heap.size #[.int .i64 c0, .int .i64 c1, .int .i64 c2, .int .i64 c3, .slice A cl.length k, .slice B l.length m] 28 by rw [hW]; exact Blk.new _ _ _)
  go_enter Try.func24, Try.ntmps24
  go_upto_region 1 with fail
  rw [← hW]
  clear hW
  have HR4 : Hid (Row W W.heap.size (some ⟨w.heap.size, 0, none⟩) (ncl [c0, c1, c2, c3])) := hid (.inr ⟨w.heap.size, 0, rfl, HXA.out.lt, fun j u hu => by
    rw [Nat.zero_add, HXA.out.cells.1 j]
    have hj : j < 4 := by
      rcases Nat.lt_or_ge j 4 with q | q
      · exact q
      · rw [List.getElem?_eq_none (by simpa using q)] at hu; cases hu
    rcases (by omega : j = 0 ∨ j = 1 ∨ j = 2 ∨ j = 3) with rfl | rfl | rfl | rfl <;> simpa using hu⟩)
  obtain ⟨cHXA, fHXA, sHXA, nHXA⟩ := HXA.out.all
  try simp only [cbox] at cHXA
  go_upto_region 2 with (at_builtin; refine wpList_append_row elem_num rfl _ _ rfl W.heap.size _ 0 [] rfl (World.ownsRow_nil _ _ _ _) (some ⟨w.heap.size, 0, none⟩) 4 4 W.heap.size (ncl [c0, c1, c2, c3]) rfl rfl HR4.out (ncl_one _) ?_ ?_ ?_ ?_; rotate_right; intro v1 w1 hown1 hg1 hif1; rotate_left; (simp only [maxLen]; omega); (omega); (exact Nat.le_refl _))
  -- STOP-a
  clear cHXA fHXA sHXA nHXA
  have HO1 : Hid (w1.ownsRow W.heap.size 3 1 v1 4 (ncl [c0, c1, c2, c3])) := hid (by simpa using hown1)
  have HB1 : Hid (Below W.heap.size W w1) := hid ((Below.refl _ _).grown hg1 (Nat.le_refl _) (fun g e => by simp [Value.ownBlock, Act.eval] at e))
  have HX1 := hid (HXA.out.step HB1.out)
  have hs1 := HB1.out.size
  obtain ⟨A1, k1, rfl⟩ := own_formS HO1.out
  clear hown1 hg1 hif1 HR4
  obtain ⟨cHX1, fHX1, sHX1, nHX1⟩ := HX1.out.all
  try simp only [cbox] at cHX1
  go_upto_region 3 with (at_builtin; refine wpList_append_row elem_num rfl _ _ rfl W.heap.size _ _ _ rfl (HO1.out.alloc _) (some ⟨w1.heap.size, 0, none⟩) 1 1 (w1.heap.size + 1) (ncl [(cl.length : Int)]) rfl rfl (Row.new' _ _ _ rfl rfl (Nat.lt_succ_self _)) (ncl_one _) ?_ ?_ ?_ ?_; rotate_right; intro v2 w2 hown2 hg2 hif2; rotate_left; (simp only [maxLen]; omega); (omega); (simp; omega))
  -- STOP-b
  clear cHX1 fHX1 sHX1 nHX1
  have HO2 : Hid (w2.ownsRow W.heap.size 3 1 v2 (D 0).length (ncl (D 0))) := hid (by rw [HD0.out]; exact hown2)
  have HB2 : Hid (Below W.heap.size W w2) := hid (Below.grown (HB1.out.alloc hs1 _) hg2 (by simp; omega) (fun g e => (HO1.out.lt g e).1))
  have HX2 := hid (HXA.out.step HB2.out)
  have hs2 := HB2.out.size
  clear hown2 hg2 hif2 HX1
  obtain ⟨cHX2, fHX2, sHX2, nHX2⟩ := HX2.out.all
  try simp only [cbox] at cHX2
  go_wp2_with fail
  -- STOP-c
  clear cHX2 fHX2 sHX2 nHX2
  go_loopw [3, 23] (fun s3 s23 wr => ∃ i : Nat, i ≤ cl.length ∧ s23 = .int .i64 i ∧ Hid (wr.ownsRow W.heap.size 3 1 s3 (D i).length (ncl (D i))) ∧ Hid (Below W.heap.size W wr)) (fun _ s23 _ => cl.length - (intOf s23).toNat)
  case atStart => exact ⟨0, by omega, rfl, HO2, HB2⟩
  case round =>
    obtain ⟨i, hi, rfl, HO, HBR⟩ := hrel
    obtain ⟨A3, k3, rfl⟩ := own_formS HO.out
    have hsr := HBR.out.size
    have hDl := HLD.out i
    by_cases hlt : i < cl.length
    · obtain ⟨b, off, rfl, hb, h0, h1⟩ := (HA.out.step (Below.step' HBW.out HBR.out)).dot hlt
      have HDS := hid (HND.out i hlt)
      generalize cl[i] = d at *
      obtain ⟨d1, d2⟩ := d
      simp only at h0 h1 HDS
      have hnb : (b = wr.heap.size) = False := by simp; omega
      go_wp2_with (at_builtin; refine wpList_append_row elem_num rfl _ _ rfl W.heap.size _ _ _ rfl ((HO.out.alloc _).alloc _) (some ⟨wr.heap.size + 1, 0, none⟩) 2 2 (wr.heap.size + 2) (ncl [d1, d2]) rfl rfl (Row.new' _ _ _ (by simp) rfl (Nat.lt_succ_self _)) (ncl_one _) ?_ ?_ ?_ ?_; rotate_right; intro v4 w4 hown4 hg4 hif4; rotate_left; (simp only [maxLen]; omega); (omega); (simp; omega))
      -- STOP-d
      go_roundw
      case rel =>
        refine ⟨i + 1, by omega, by go_num, hid ?_, hid (Below.grown ((HBR.out.alloc hsr _).alloc (by simp; omega) _) hg4 (by simp; omega) (fun g e => (HO.out.lt g e).1))⟩
        rw [HDS.out, ncl_app, List.length_append]
        exact hown4
      case measure => simp [intOf]; omega
    · have hik : i = cl.length := by omega
      subst hik
      have HX3 := hid (HXA.out.step HBR.out)
      have HN0 := hid HC0.out
      obtain ⟨cHX3, fHX3, sHX3, nHX3⟩ := HX3.out.all
      try simp only [cbox] at cHX3
      go_upto_region 9 with (at_builtin; refine wpList_append_row elem_num rfl _ _ rfl W.heap.size _ _ _ rfl (HO.out.alloc _) (some ⟨wr.heap.size, 0, none⟩) 1 1 (wr.heap.size + 1) (ncl [(l.length : Int)]) rfl rfl (Row.new' _ _ _ rfl rfl (Nat.lt_succ_self _)) (ncl_one _) ?_ ?_ ?_ ?_; rotate_right; intro v5 w5 hown5 hg5 hif5; rotate_left; (simp only [maxLen]; omega); (omega); (simp; omega))
      -- STOP-e
      clear cHX3 fHX3 sHX3 nHX3
      have HO5 : Hid (w5.ownsRow W.heap.size 3 1 v5 (C 0).length (ncl (C 0))) := hid (by rw [HC0.out, ncl_app, List.length_append]; exact hown5)
      have HB5 : Hid (Below W.heap.size W w5) := hid (Below.grown (HBR.out.alloc hsr _) hg5 (by simp; omega) (fun g e => (HO.out.lt g e).1))
      have HX5 := hid (HXA.out.step HB5.out)
      clear hown5 hg5 hif5 HX3 HO HBR hsr
      obtain ⟨cHX5, fHX5, sHX5, nHX5⟩ := HX5.out.all
      try simp only [cbox] at cHX5
      go_wp2_with fail
      -- STOP-f
      clear cHX5 fHX5 sHX5 nHX5
      go_loopw [3, 44] (fun s3 s44 wr => ∃ i : Nat, i ≤ l.length ∧ s44 = .int .i64 i ∧ Hid (wr.ownsRow W.heap.size 3 1 s3 (C i).length (ncl (C i))) ∧ Hid (Below W.heap.size W wr)) (fun _ s44 _ => l.length - (intOf s44).toNat)
      case atStart => exact ⟨0, by omega, rfl, HO5, HB5⟩
      case round =>
        obtain ⟨i, hi, rfl, HO, HBR⟩ := hrel
        obtain ⟨A6, k6, rfl⟩ := own_formS HO.out
        have hsr := HBR.out.size
        have hCl := HLC.out i
        by_cases hlt : i < l.length
        · obtain ⟨b, off, rfl, hb, h0, h1, h2, h3, h4⟩ := (HB.out.step (Below.step' HBW.out HBR.out)).cel5 hlt
          have HCS := hid (HNC.out i hlt)
          generalize l[i] = x at *
          obtain ⟨⟨x1, x2⟩, x3, x4, x5⟩ := x
          simp only [celNs] at h0 h1 h2 h3 h4 HCS
          have hnb : (b = wr.heap.size) = False := by simp; omega
          go_wp2_with (at_builtin; refine wpList_append_row elem_num rfl _ _ rfl W.heap.size _ _ _ rfl ((HO.out.alloc _).alloc _) (some ⟨wr.heap.size + 1, 0, none⟩) 5 5 (wr.heap.size + 2) (ncl [x1, x2, x3, x4, x5]) rfl rfl (Row.new' _ _ _ (by simp) rfl (Nat.lt_succ_self _)) (ncl_one _) ?_ ?_ ?_ ?_; rotate_right; intro v7 w7 hown7 hg7 hif7; rotate_left; (simp only [maxLen]; omega); (omega); (simp; omega))
          -- STOP-g
          go_roundw
          case rel =>
            refine ⟨i + 1, by omega, by go_num, hid ?_, hid (Below.grown ((HBR.out.alloc hsr _).alloc (by simp; omega) _) hg7 (by simp; omega) (fun g e => (HO.out.lt g e).1))⟩
            rw [HCS.out, ncl_app, List.length_append]
            exact hown7
          case measure => simp [intOf]; omega
        · have hik : i = l.length := by omega
          subst hik
          go_wp2_with fail
          -- STOP-h
          go_ret
          rw [HNA.out] at HO ⊢
          exact ⟨A6, k6, rfl, own_baseS HO.out HBW.out.size, Below.step' HBW.out HBR.out⟩
end Go.Proofs.Ytnnabfjlmenmgaa
/- wire.Encode. -/
namespace Go.Proofs.Ytnnabfjlmenmgaa
set_option linter.unusedVariables false
set_option linter.unusedSimpArgs false
open Go.ChangeShapes Go.WideShapes Go.ChangeAt Go.RowKit

theorem own_typeW {w : World} {B n s g : Nat} {T : TypeId} {v : Value} {xs : List Value} (h : w.ownsRow B T s v n xs) (e : v.ownBlock = some g) : ∃ cur, w.heap[g]? = some (Obj.cells cur T (0, 0)) := by
  rcases h.2 with ⟨q, -⟩ | ⟨b, cap, cur, q, hb, hg, -⟩
  · rw [q] at e; simp [Value.ownBlock] at e
  · have : b = g := by rw [q] at e; simpa [Value.ownBlock] using e
    subst this
    exact ⟨cur, hg⟩
theorem own_apart {w : World} {B n s B' n' s' : Nat} {T T' : TypeId} {v v' : Value} {xs ys : List Value} (h : w.ownsRow B T s v n xs) (h' : w.ownsRow B' T' s' v' n' ys) (hT : T ≠ T') : ∀ g, v.ownBlock = some g → some g ≠ v'.ownBlock := fun g e e2 => by
  obtain ⟨c1, q1⟩ := own_typeW h e
  obtain ⟨c2, q2⟩ := own_typeW h' e2.symm
  rw [q1] at q2
  injection q2 with q2
  injection q2 with _ q2 _
  exact hT q2
theorem own_keptW {w w' : World} {B n s : Nat} {T : TypeId} {v : Value} {xs : List Value} (h : w.ownsRow B T s v n xs) {r : Option Nat} (hg : w.grownBy w' r) (hne : ∀ b, v.ownBlock = some b → some b ≠ r) : w'.ownsRow B T s v n xs := by
  obtain ⟨h1, h2⟩ := h
  refine ⟨h1, ?_⟩
  rcases h2 with h2 | ⟨b, cap, cur, e, hb, hgt, h3⟩
  · exact .inl h2
  · have hlt : b < w.heap.size := by
      rcases Nat.lt_or_ge b w.heap.size with h | h
      · exact h
      · rw [Array.getElem?_eq_none h] at hgt; cases hgt
    exact .inr ⟨b, cap, cur, e, hb, (hg.block b hlt (hne b (by rw [e]; rfl))).trans hgt, h3⟩
theorem ne_int_byte : 3 ≠ 5 := by decide
/-- A packet's cells. -/
abbrev pbox (x : Tab) (A : Option Addr) (k : Nat) (B : Option Addr) (m : Nat) (y : Tab) (A' : Option Addr) (k' : Nat) (B' : Option Addr) (m' : Nat) : Array Value :=
  #[.int .i64 x.c.c0, .int .i64 x.c.c1, .int .i64 x.c.c2, .int .i64 x.c.c3, .slice A x.c.cloud.length k, .slice B x.cells.length m,
    .int .i64 y.c.c0, .int .i64 y.c.c1, .int .i64 y.c.c2, .int .i64 y.c.c3, .slice A' y.c.cloud.length k', .slice B' y.cells.length m']
/-- A table, and where it lies. -/
structure TR where
  t : Tab
  A : Option Addr
  k : Nat
  B : Option Addr
  m : Nat
def TR.ok (z : TR) (w : World) : Prop := Row w w.heap.size z.A (dcells z.t.c.cloud) ∧ z.t.c.cloud.length ≤ 9223372036854775807 ∧ Row w w.heap.size z.B (tcells z.t.cells) ∧ z.t.cells.length ≤ 9223372036854775807
theorem TR.ok.step {z : TR} {w w' : World} (h : z.ok w) (hb : Below w.heap.size w w') : z.ok w' := ⟨h.1.step hb, h.2.1, h.2.2.1.step hb, h.2.2.2⟩
abbrev TR.box (z : TR) : Array Value := tbox z.t z.A z.k z.B z.m
abbrev TR.val (z : TR) : Value := tval z.t z.A z.k z.B z.m
abbrev pboxT (x y : TR) : Array Value := pbox x.t x.A x.k x.B x.m y.t y.A y.k y.B y.m
set_option maxRecDepth 100000 in
theorem idx_first (x y : TR) (w : World) : (Instr.index 29 (.agg (pboxT x y)) (.int .i64 0)).run Try.prog w = .ok x.val w := by kernel_rfl
set_option maxRecDepth 100000 in
theorem idx_second (x y : TR) (w : World) : (Instr.index 29 (.agg (pboxT x y)) (.int .i64 1)).run Try.prog w = .ok y.val w := by kernel_rfl
def pick2 (x y : TR) (i : Nat) : TR := if i = 0 then x else y
theorem tab_small {t : Tab} (h : tabI t = 0) : t.c.cloud.length ≤ 400 ∧ t.cells.length ≤ 400 := by
  have h1 : checkI t.c = 0 := by
    rcases Classical.em (checkI t.c = 0) with q | q
    · exact q
    · rw [tabI_ctx q] at h; exact absurd h q
  have h2 : t.cells.length ≤ 400 := by
    rcases Nat.lt_or_ge 400 t.cells.length with q | q
    · rw [tabI_large h1 q] at h; omega
    · exact q
  exact ⟨((checkI_iff _).1 h1).2, h2⟩
theorem numB_len (n : Int) : (numB n).length ≤ 9 := by
  have h := clampN_le n
  exact numU_len 8 _ (unz_lt h.1 h.2)
theorem numB_pos (n : Int) : 0 < (numB n).length := numU_pos _
theorem encL_len : ∀ (l : List Int), (encL l).length ≤ 9 * l.length
  | [] => by simp [encL]
  | n :: l => by
    have := encL_len l
    have := numB_len n
    rw [encL_cons, List.length_append, List.length_cons]
    omega
theorem encT_len {t : Tab} (h : tabI t = 0) : (encT t).length ≤ 30000 ∧ (numsT t).length ≤ 3000 := by
  obtain ⟨h1, h2⟩ := tab_small h
  have q := numsC_len t t.cells.length
  rw [numsC_all] at q
  have := encL_len (numsT t)
  unfold encT
  omega
theorem encT_pos (t : Tab) : 0 < (encT t).length := by
  unfold encT numsT
  rw [encL_app, encL_app, List.length_append, List.length_append, encL_cons, List.length_append]
  have := numB_pos t.c.c0
  omega
theorem encL_take (l : List Int) (j : Nat) (h : j < l.length) : encL (l.take (j + 1)) = encL (l.take j) ++ numB l[j] := by
  rw [List.take_succ_eq_append_getElem h, encL_app, encL_cons, encL_nil, List.append_nil]
/-- What was written of the first i tables. -/
def enc2 (x y : Tab) (i : Nat) : List UInt8 := if i = 0 then [] else if i = 1 then encT x else encT x ++ encT y
theorem enc2_succ (x y : TR) (i : Nat) (h : i < 2) : enc2 x.t y.t (i + 1) = enc2 x.t y.t i ++ encT (pick2 x y i).t := by
  rcases (by omega : i = 0 ∨ i = 1) with rfl | rfl <;> simp [enc2, pick2]
def codeS (x y : Tab) : List UInt8 := if codeE x y = 0 then codeP x y else []

set_option maxHeartbeats 1000000 in
set_option maxRecDepth 100000 in
theorem encode_any (x y : TR) (w : World) (hx : x.ok w) (hy : y.ok w) :
    Calls Try.prog 8 #[.agg (pboxT x y)] w fun e w' => e = .returned (.tuple #[.string (bstr (codeS x.t y.t)), .int .i64 (codeE x.t y.t)]) ∧ Below w.heap.size w w' := by
  have HP := hid (fun (i : Nat) (w1 : World) (hb : Below w.heap.size w w1) => show (pick2 x y i).ok w1 from by unfold pick2; split; exact hx.step hb; exact hy.step hb)
  have HE2 := hid (enc2_succ x y)
  have HE := hid (show codeE x.t y.t = if tabI (pick2 x y 0).t ≠ 0 then tabI (pick2 x y 0).t else tabI (pick2 x y 1).t from rfl)
  have HS := hid (show codeS x.t y.t = if codeE x.t y.t = 0 then enc2 x.t y.t 2 ++ sum4 (sumB (enc2 x.t y.t 2)) else [] from rfl)
  have HP0 := hid (show 0 < (enc2 x.t y.t 2).length by have := encT_pos x.t; simp only [enc2]; rw [if_neg (by omega), if_neg (by omega), List.length_append]; omega)
  have HPX := hid (show pick2 x y 0 = x from rfl)
  have HPY := hid (show pick2 x y 1 = y from rfl)
  obtain ⟨EN, hEN⟩ : ∃ q, q = enc2 x.t y.t := ⟨_, rfl⟩
  obtain ⟨E, hE⟩ : ∃ q, q = codeE x.t y.t := ⟨_, rfl⟩
  obtain ⟨S, hS⟩ : ∃ q, q = codeS x.t y.t := ⟨_, rfl⟩
  obtain ⟨PK, hPK⟩ : ∃ q, q = pick2 x y := ⟨_, rfl⟩
  have HE0 := hid (show EN 0 = [] by rw [hEN]; rfl)
  rw [← hPK] at HP HE2 HE HPX HPY
  rw [← hEN] at HE2 HS HP0
  rw [← hE] at HE HS
  rw [← hS] at HS
  rw [← hE, ← hS]
  clear hEN hE hS hPK hx hy
  obtain ⟨W, hW⟩ : ∃ W : World, W = w.alloc (.cells (pboxT x y) 31) := ⟨_, rfl⟩
  have HBW := hid (show Below w.heap.size w W by rw [hW]; exact alloc_below (Below.refl _ _) _)
  have HXA := hid (show Blk W w.heap.size (pboxT x y) 31 by rw [hW]; exact Blk.new _ _ _)
  go_enter Try.func8, Try.ntmps8
  go_upto_region 2 with fail
  rw [← hW]
  clear hW
  obtain ⟨cHXA, fHXA, sHXA, nHXA⟩ := HXA.out.all
  try simp only [cbox] at cHXA
  go_wp2_with fail
  -- STOP-a
  clear cHXA fHXA sHXA nHXA
  go_loopw [4, 13] (fun s4 s13 wr => ∃ i : Nat, i ≤ 2 ∧ s13 = .int .i64 i ∧ Hid ((EN i).length ≤ 30000 * i) ∧ Hid (∀ j, j < i → tabI (PK j).t = 0) ∧ Hid (wr.ownsRow W.heap.size 5 1 s4 (EN i).length (bcells (EN i))) ∧ Hid (Below W.heap.size W wr)) (fun _ s13 _ => 2 - (intOf s13).toNat)
  case atStart => exact ⟨0, by omega, rfl, hid (by rw [HE0.out]; simp), hid (fun j h => by omega), hid (by rw [HE0.out]; exact World.ownsRow_nil _ _ _ _), hid (Below.refl _ _)⟩
  case round =>
    obtain ⟨i, hi, rfl, HEL, HTB, HOWN, HBR⟩ := hrel
    obtain ⟨A4, k4, rfl⟩ := own_formS HOWN.out
    have hsr := HBR.out.size
    by_cases hlt : i < 2
    · have t1 : ((i : Int) < 2) = True := eq_true (by omega)
      have HPI := hid (HP.out i)
      have HES := hid (HE2.out i hlt)
      have HTE := hid (show tabI (PK i).t ≠ 0 → E = tabI (PK i).t from fun h => by
        rcases (by omega : i = 0 ∨ i = 1) with rfl | rfl
        · rw [HE.out, if_pos h]
        · rw [HE.out, if_neg (by rw [HTB.out 0 (by omega)]; simp)])
      obtain ⟨wo, rfl⟩ : ∃ wx : World, wx = wr := ⟨_, rfl⟩
      go_upto_region 4 with fail
      -- STOP-b
      go_cut [6] from 15 to 15 (fun s6 wx => s6 = .pointer (some ⟨wo.heap.size, 0, none⟩) ∧ Hid (wx = wo.alloc (.cells (PK i).box 28)))
      case first =>
        have hi0 := idx_first x y wo
        have hi1 := idx_second x y wo
        simp only [pboxT, pbox, TR.val, tval] at hi0 hi1
        rcases (by omega : i = 0 ∨ i = 1) with rfl | rfl
        · go_wp2_with fail
          -- STOP-c
          go_meet
          case rel => exact ⟨rfl, hid (by rw [HPX.out])⟩
        · go_wp2_with fail
          go_meet
          case rel => exact ⟨rfl, hid (by rw [HPY.out])⟩
      case rest =>
        obtain ⟨rfl, HWC⟩ := hcut
        obtain ⟨T, hT⟩ : ∃ q, q = PK i := ⟨_, rfl⟩
        rw [← hT] at HPI HES HTE HWC
        have HTI := hid hT
        clear hT
        have HBO := hid (show Below wo.heap.size wo wc by rw [HWC.out]; exact alloc_below (Below.refl _ _) _)
        have HXT := hid (show Blk wc wo.heap.size T.box 28 by rw [HWC.out]; exact Blk.new _ _ _)
        obtain ⟨W2, rfl⟩ : ∃ wx : World, wx = wc := ⟨_, rfl⟩
        have HB2 := hid (Below.step' HBR.out HBO.out)
        have HOK := hid (HPI.out W2 (Below.step' HBW.out HB2.out))
        have HO2 := hid (own_laterS HOWN.out HBO.out)
        obtain ⟨⟨⟨c0, c1, c2, c3, cl⟩, l⟩, A, k, B, m⟩ := T
        have HCK := hid (fun w1 (hb : Below W2.heap.size W2 w1) => tcheck_any ⟨⟨c0, c1, c2, c3, cl⟩, l⟩ A k B m w1 (HOK.out.1.step hb) HOK.out.2.1 (HOK.out.2.2.1.step hb) HOK.out.2.2.2)
        have HNM := hid (fun (h1 : cl.length ≤ 400) (h2 : l.length ≤ 400) w1 (hb : Below W2.heap.size W2 w1) => numbers_any ⟨⟨c0, c1, c2, c3, cl⟩, l⟩ A k B m w1 (HOK.out.1.step hb) h1 (HOK.out.2.2.1.step hb) h2)
        have HTS := hid (fun h => tab_small (t := ⟨⟨c0, c1, c2, c3, cl⟩, l⟩) h)
        have HTL := hid (fun h => encT_len (t := ⟨⟨c0, c1, c2, c3, cl⟩, l⟩) h)
        have HET := hid (show encT ⟨⟨c0, c1, c2, c3, cl⟩, l⟩ = encL (numsT ⟨⟨c0, c1, c2, c3, cl⟩, l⟩) from rfl)
        obtain ⟨TI, hTI⟩ : ∃ q, q = tabI ⟨⟨c0, c1, c2, c3, cl⟩, l⟩ := ⟨_, rfl⟩
        obtain ⟨NL, hNL⟩ : ∃ q, q = numsT ⟨⟨c0, c1, c2, c3, cl⟩, l⟩ := ⟨_, rfl⟩
        have HTIQ := hid hTI
        simp only [TR.box, tbox, tval] at HXT HCK HNM HES HTE
        rw [← hTI] at HCK HTS HTL HTE
        rw [← hNL] at HNM HTL HET
        clear hTI hNL HWC
        obtain ⟨cHXT, fHXT, sHXT, nHXT⟩ := HXT.out.all
        try simp only [cbox] at cHXT
        go_wp2_with fail
        -- STOP-d
        refine (HCK.out _ (Below.refl _ _)).mono ?_
        rintro e w3 ⟨rfl, hb3⟩
        have HB3 := hid hb3
        clear cHXT fHXT sHXT nHXT
        have HX3 := hid (HXT.out.step hb3)
        have HO3 := hid (own_laterS HO2.out hb3)
        clear hb3
        by_cases q0 : TI = 0
        rotate_left
        · have t2 : (TI != 0) = true := by simpa using q0
          have HQ := hid q0
          clear q0
          go_wp2_with fail
          go_ret2
          have hE := HTE.out HQ.out
          refine ⟨?_, Below.step' HBW.out (Below.step' HB2.out HB3.out)⟩
          rw [HS.out, if_neg (by rw [hE]; exact HQ.out), hE]
          rfl
        subst q0
        obtain ⟨hcl, hl⟩ := HTS.out rfl
        obtain ⟨hEl, hNl⟩ := HTL.out rfl
        obtain ⟨cHX3, fHX3, sHX3, nHX3⟩ := HX3.out.all
        try simp only [cbox] at cHX3
        go_wp2_with fail
        -- STOP-e
        refine (HNM.out hcl hl _ HB3.out).mono ?_
        rintro e w4 ⟨A5, k5, rfl, hown5, hb4⟩
        clear cHX3 fHX3 sHX3 nHX3
        have HN4 := hid hown5
        have HO4 := hid (own_laterS HO3.out hb4)
        have HB4 := hid (Below.step' HB2.out (Below.step' HB3.out hb4))
        have hs4 := HB4.out.size
        have HTB2 := hid (show ∀ j, j < i + 1 → tabI (PK j).t = 0 from fun j hj => by
          by_cases q : j < i
          · exact HTB.out j q
          · have : j = i := by omega
            subst this
            rw [← HTI.out]; exact HTIQ.out.symm)
        have hEN := HEL.out
        clear hown5 hb4 HX3 HO3 HXT
        go_wp2_with fail
        -- STOP-f
        go_loopw [4, 24] (fun s4 s24 wr => ∃ (j : Nat) (Q : List UInt8), j ≤ NL.length ∧ s24 = .int .i64 j ∧ Q.length ≤ 30000 + 9 * j ∧ Hid (Q = EN i ++ encL (NL.take j)) ∧ Hid (wr.ownsRow W.heap.size 5 1 s4 Q.length (bcells Q)) ∧ Hid (wr.ownsRow w3.heap.size 3 1 (.slice A5 NL.length k5) NL.length (ncl NL)) ∧ Hid (Below W.heap.size W wr)) (fun _ s24 _ => NL.length - (intOf s24).toNat)
        case atStart => exact ⟨0, EN i, by omega, rfl, by omega, hid (by simp [encL]), HO4, HN4, HB4⟩
        case round =>
          obtain ⟨j, Q, hj, rfl, hQ, HQ, HO, HN5, HB5⟩ := hrel
          obtain ⟨A6, k6, rfl⟩ := own_formS HO.out
          have hs5 := HB5.out.size
          by_cases hjl : j < NL.length
          · obtain ⟨b, off, rfl, hb, h0⟩ := (Row.of_ownS HN5.out).num hjl
            have HTK := hid (encL_take NL j hjl)
            generalize NL[j] = n at *
            have HNB := hid (number_any n wr)
            have hnl := numB_len n
            have hnp := numB_pos n
            generalize numB n = nb at *
            go_wp2_with fail
            -- STOP-g
            refine HNB.out.mono ?_
            rintro e w6 ⟨rfl, hb6⟩
            have HB6 := hid (Below.step' HB5.out hb6)
            have HO6 := hid (own_laterS HO.out hb6)
            have HN6 := hid (own_laterS HN5.out hb6)
            have hs6 := hb6.size
            clear hb6 HNB
            go_wp2_with (at_builtin; refine wpList_append_str rfl _ _ rfl W.heap.size _ _ _ rfl HO6.out nb rfl hnp ?_ ?_ ?_ ?_; rotate_right; intro v7 w7 hown7 hg7 hif7; rotate_left; (simp only [maxLen]; omega); (omega); (omega))
            -- STOP-h
            go_roundw
            case rel =>
              refine ⟨j + 1, Q ++ nb, by omega, by go_num, by simp; omega, hid ?_, hid ?_, hid (own_keptW HN6.out hg7 (own_apart HN6.out HO6.out ne_int_byte)), hid (Below.grown HB6.out hg7 (by omega) (fun g e => (HO6.out.lt g e).1))⟩
              · rw [HTK.out, HQ.out, List.append_assoc]
              · rw [bcells_app, List.length_append]
                exact hown7
            case measure => simp [intOf]; omega
          · have hje : j = NL.length := by omega
            subst hje
            go_wp2_with fail
            -- STOP-i
            go_roundw
            case rel =>
              have hQE : Q = EN (i + 1) := by rw [HQ.out, List.take_length, ← HET.out, ← HES.out]
              refine ⟨i + 1, by omega, by go_num, hid ?_, HTB2, ?_, HB5⟩
              · rw [HES.out, List.length_append]; omega
              · rw [← hQE]; exact HO
            case measure => simp [intOf]; omega
    · have hi2 : i = 2 := by omega
      subst hi2
      have hel : (EN 2).length ≤ 60000 := by have := HEL.out; omega
      have hcv := conv_str HOWN.out HP0.out
      have HSM := hid (sumS_any (EN 2) wr (by omega))
      have hN := sumB_lt (EN 2)
      have HE0 := hid (show E = 0 by rw [HE.out, if_neg (by rw [HTB.out 0 (by omega)]; simp)]; exact HTB.out 1 (by omega))
      have HSS := hid (show S = EN 2 ++ sum4 (sumB (EN 2)) by rw [HS.out, if_pos HE0.out])
      clear HS
      generalize sumB (EN 2) = N at *
      obtain ⟨wo, rfl⟩ : ∃ wx : World, wx = wr := ⟨_, rfl⟩
      go_wp2_with fail
      -- STOP-j
      refine HSM.out.mono ?_
      rintro e w5 ⟨rfl, rfl⟩
      clear HSM hcv
      have HS4 := hid (show bcells (sum4 N) = [.int .u8 ((N : Int) % 256), .int .u8 ((N : Int) / 256 % 256), .int .u8 ((N : Int) / 65536 % 256), .int .u8 ((N : Int) / 16777216)] by
        simp only [sum4, List.map_cons, List.map_nil, b8_of _ (Nat.mod_lt _ (by omega : 0 < 256))]
        rw [show ((N % 256 : Nat) : Int) = (N : Int) % 256 by omega, show ((N / 256 % 256 : Nat) : Int) = (N : Int) / 256 % 256 by omega, show ((N / 65536 % 256 : Nat) : Int) = (N : Int) / 65536 % 256 by omega, show ((N / 16777216 % 256 : Nat) : Int) = (N : Int) / 16777216 by omega])
      have hone : ∀ u ∈ ([.int .u8 ((N : Int) % 256), .int .u8 ((N : Int) / 256 % 256), .int .u8 ((N : Int) / 65536 % 256), .int .u8 ((N : Int) / 16777216)] : List Value), u.oneCell' = true := by
        intro u hu
        simp only [List.mem_cons, List.not_mem_nil, or_false] at hu
        rcases hu with rfl | rfl | rfl | rfl <;> rfl
      have HCV := hid (fun (A : Option Addr) (c : Nat) (w7 : World) (h : w7.ownsRow W.heap.size 5 1 (.slice A ((EN 2).length + 4) c) ((EN 2).length + 4) (bcells (EN 2 ++ sum4 N))) => conv_str h (by simp [sum4]))
      go_wp2_with (at_builtin; refine wpList_append_row elem_byte rfl _ _ rfl W.heap.size _ _ _ rfl (HOWN.out.alloc _) (some ⟨w5.heap.size, 0, none⟩) 4 4 (w5.heap.size + 1) [.int .u8 ((N : Int) % 256), .int .u8 ((N : Int) / 256 % 256), .int .u8 ((N : Int) / 65536 % 256), .int .u8 ((N : Int) / 16777216)] rfl rfl (Row.new' _ _ _ rfl rfl (Nat.lt_succ_self _)) hone ?_ ?_ ?_ ?_; rotate_right; intro v7 w7 hown7 hg7 hif7; obtain ⟨A7, c7, rfl⟩ := own_formS hown7; rw [← HS4.out, ← bcells_app] at hown7; have hc7 := HCV.out _ _ _ hown7; rotate_left; (simp only [maxLen]; omega); (omega); (simp; omega))
      -- STOP-k
      go_ret2
      refine ⟨?_, Below.step' HBW.out (Below.grown (HBR.out.alloc hsr _) hg7 (by simp; omega) (fun g e => (HOWN.out.lt g e).1))⟩
      rw [HE0.out, HSS.out]
      trace_state
      rfl
end Go.Proofs.Ytnnabfjlmenmgaa
/- viewref.Coded. -/
namespace Go.Proofs.Ytnnabfjlmenmgaa
set_option linter.unusedVariables false
set_option linter.unusedSimpArgs false
open Go.ChangeShapes Go.WideShapes Go.ChangeAt Go.RowKit

theorem add_str (a b : List UInt8) (w : World) (h : a.length + b.length ≤ 9223372036854775807) : (Op.stringOp .add (bstr a) (bstr b)).run Try.prog w = .ok (.string (bstr (a ++ b))) w := by
  have h2 := run_string_add_sum (P := Try.prog) (w := w) (bstr a) (bstr b) (by rw [bstr_size, bstr_size]; exact h)
  rw [bstr_app] at h2
  exact h2
/-- The bytes of a number that are left, the lowest first. -/
def rest4 : Nat → Nat → List UInt8
  | 0, _ => []
  | k + 1, M => UInt8.ofNat (M % 256) :: rest4 k (M / 256)
theorem rest4_sum (N : Nat) : rest4 4 N = sum4 N := by
  simp only [rest4, sum4, Nat.div_div_eq_div_mul, Nat.reduceMul]
/-- The numbers of a table, as far as they are written. -/
def clkNs (t : Tab) : List Int := [t.c.c0, t.c.c1, t.c.c2, t.c.c3]
theorem numsD_zero (t : Tab) : numsD t 0 = clkNs t ++ [(t.c.cloud.length : Int)] := by unfold numsD clkNs; simp
theorem numsC_zero (t : Tab) : numsC t 0 = numsD t t.c.cloud.length ++ [(t.cells.length : Int)] := by unfold numsC; simp

set_option maxHeartbeats 2000000 in
set_option maxRecDepth 100000 in
theorem coded_any (x y : TR) (w : World) (hx : x.ok w) (hy : y.ok w) (tx : tabI x.t = 0) (ty : tabI y.t = 0) :
    Calls Try.prog 7 #[.agg (pboxT x y)] w fun e w' => e = .returned (.string (bstr (codeP x.t y.t))) ∧ Below w.heap.size w w' := by
  have HP := hid (fun (i : Nat) (w1 : World) (hb : Below w.heap.size w w1) => show (pick2 x y i).ok w1 from by unfold pick2; split; exact hx.step hb; exact hy.step hb)
  have HE2 := hid (enc2_succ x y)
  have HT := hid (fun i : Nat => show tabI (pick2 x y i).t = 0 from by unfold pick2; split; exact tx; exact ty)
  have HS := hid (show codeP x.t y.t = enc2 x.t y.t 2 ++ sum4 (sumB (enc2 x.t y.t 2)) from rfl)
  have HPX := hid (show pick2 x y 0 = x from rfl)
  have HPY := hid (show pick2 x y 1 = y from rfl)
  obtain ⟨EN, hEN⟩ : ∃ q, q = enc2 x.t y.t := ⟨_, rfl⟩
  obtain ⟨S, hS⟩ : ∃ q, q = codeP x.t y.t := ⟨_, rfl⟩
  obtain ⟨PK, hPK⟩ : ∃ q, q = pick2 x y := ⟨_, rfl⟩
  have HE0 := hid (show EN 0 = [] by rw [hEN]; rfl)
  rw [← hPK] at HP HE2 HT HPX HPY
  rw [← hEN] at HE2 HS
  rw [← hS] at HS
  rw [← hS]
  clear hEN hS hPK hx hy tx ty
  have hsz := bstr_size
  have hap := bstr_app
  obtain ⟨W, hW⟩ : ∃ W : World, W = w.alloc (.cells (pboxT x y) 31) := ⟨_, rfl⟩
  have HBW := hid (show Below w.heap.size w W by rw [hW]; exact alloc_below (Below.refl _ _) _)
  have HXA := hid (show Blk W w.heap.size (pboxT x y) 31 by rw [hW]; exact Blk.new _ _ _)
  go_enter Try.func7, Try.ntmps7
  go_upto_region 2 with fail
  rw [← hW]
  clear hW
  go_wp2_with fail
  -- STOP-a
  go_loopw [3, 4] (fun s3 s4 wr => ∃ i : Nat, i ≤ 2 ∧ s4 = .int .i64 i ∧ Hid ((EN i).length ≤ 30000 * i) ∧ s3 = .string (bstr (EN i)) ∧ Hid (Below W.heap.size W wr)) (fun _ s4 _ => 2 - (intOf s4).toNat)
  case atStart => exact ⟨0, by omega, rfl, hid (by rw [HE0.out]; simp), by rw [HE0.out], hid (Below.refl _ _)⟩
  case round =>
    obtain ⟨i, hi, rfl, HEL, rfl, HBR⟩ := hrel
    by_cases hlt : i < 2
    · have t1 : ((i : Int) < 2) = True := eq_true (by omega)
      have HPI := hid (HP.out i)
      have HES := hid (HE2.out i hlt)
      have HTI := hid (HT.out i)
      have HXR := hid (HXA.out.step HBR.out)
      obtain ⟨wo, rfl⟩ : ∃ wx : World, wx = wr := ⟨_, rfl⟩
      go_upto_region 5 with fail
      -- STOP-b
      go_cut [5] from 16 to 19 (fun s5 wx => s5 = .pointer (some ⟨wo.heap.size, 0, none⟩) ∧ Hid (wx = wo.alloc (.cells (PK i).box 28)))
      case first =>
        obtain ⟨cHXR, fHXR, sHXR, nHXR⟩ := HXR.out.all
        try simp only [cbox] at cHXR
        rcases (by omega : i = 0 ∨ i = 1) with rfl | rfl
        · go_wp2_with fail
          -- STOP-c
          go_meet
          case rel => exact ⟨rfl, hid (by rw [HPX.out])⟩
        · go_wp2_with fail
          go_meet
          case rel => exact ⟨rfl, hid (by rw [HPY.out])⟩
      case rest =>
        obtain ⟨rfl, HWC⟩ := hcut
        obtain ⟨T, hT⟩ : ∃ q, q = PK i := ⟨_, rfl⟩
        rw [← hT] at HPI HES HTI HWC
        clear hT
        have HBO := hid (show Below wo.heap.size wo wc by rw [HWC.out]; exact alloc_below (Below.refl _ _) _)
        have HXT := hid (show Blk wc wo.heap.size T.box 28 by rw [HWC.out]; exact Blk.new _ _ _)
        obtain ⟨W2, rfl⟩ : ∃ wx : World, wx = wc := ⟨_, rfl⟩
        have HB2 := hid (Below.step' HBR.out HBO.out)
        have HOK := hid (HPI.out W2 (Below.step' HBW.out HB2.out))
        obtain ⟨hcl, hl⟩ := tab_small HTI.out
        obtain ⟨hEl, -⟩ := encT_len HTI.out
        have HND := hid (numsD_succ T.t)
        have HNC := hid (numsC_succ T.t)
        have HNA := hid (show encT T.t = encL (numsC T.t T.t.cells.length) by rw [numsC_all]; rfl)
        have HD0 := hid (numsD_zero T.t)
        have HC0 := hid (numsC_zero T.t)
        obtain ⟨⟨⟨c0, c1, c2, c3, cl⟩, l⟩, A, k, B, m⟩ := T
        obtain ⟨D, hD⟩ : ∃ q, q = numsD ⟨⟨c0, c1, c2, c3, cl⟩, l⟩ := ⟨_, rfl⟩
        obtain ⟨C, hC⟩ : ∃ q, q = numsC ⟨⟨c0, c1, c2, c3, cl⟩, l⟩ := ⟨_, rfl⟩
        obtain ⟨ET, hET⟩ : ∃ q, q = encT ⟨⟨c0, c1, c2, c3, cl⟩, l⟩ := ⟨_, rfl⟩
        simp only [TR.box, tbox, clkNs] at HXT HD0 HC0 hcl hl hEl HND HNC HES HNA
        rw [← hD] at HND HD0 HC0
        rw [← hC] at HNC HC0 HNA
        rw [← hET] at HES HNA hEl
        clear hD hC hET HWC
        have hEN := HEL.out
        obtain ⟨cHXT, fHXT, sHXT, nHXT⟩ := HXT.out.all
        try simp only [cbox] at cHXT
        go_wp2_with fail
        -- STOP-d
        clear cHXT fHXT sHXT nHXT
        go_loopw [3, 6] (fun s3 s6 wr => ∃ (j : Nat) (Q : List UInt8), j ≤ 4 ∧ s6 = .int .i64 j ∧ s3 = .string (bstr Q) ∧ Q.length ≤ 60000 + 9 * j ∧ Hid (Q = EN i ++ encL ([c0, c1, c2, c3].take j)) ∧ Hid (Below W2.heap.size W2 wr)) (fun _ s6 _ => 4 - (intOf s6).toNat)
        case atStart => exact ⟨0, EN i, by omega, rfl, rfl, by omega, hid (by simp [encL]), hid (Below.refl _ _)⟩
        case round =>
          obtain ⟨j, Q, hj, rfl, rfl, hQ, HQ, HB5⟩ := hrel
          have HX5 := hid (HXT.out.step HB5.out)
          by_cases hjl : j < 4
          · have t2 : ((j : Int) < 4) = True := eq_true (by omega)
            have HTK := hid (fun (n : Int) (h : [c0, c1, c2, c3][j]? = some n) => show encL ([c0, c1, c2, c3].take (j + 1)) = encL ([c0, c1, c2, c3].take j) ++ numB n from by
              obtain ⟨h1, h2⟩ := List.getElem?_eq_some_iff.1 h
              rw [encL_take _ j h1, h2])
            rcases (by omega : j = 0 ∨ j = 1 ∨ j = 2 ∨ j = 3) with rfl | rfl | rfl | rfl
            all_goals
              obtain ⟨cHX5, fHX5, sHX5, nHX5⟩ := HX5.out.all
              try simp only [cbox] at cHX5
              go_wp2_with fail
              refine (Rnumber_any _ _).mono ?_
              rintro e w6 ⟨rfl, hb6⟩
              have HB6 := hid (Below.step' HB5.out hb6)
              have HT6 := hid (HTK.out _ rfl)
              clear hb6 HTK
            · have hnl := numB_len c0
              generalize numB c0 = nb at *
              go_wp2_with fail
              -- STOP-e
              go_roundw
              case rel => exact ⟨1, Q ++ nb, by omega, by go_num, rfl, by simp; omega, hid (by rw [HT6.out, HQ.out, List.append_assoc]), HB6⟩
              case measure => simp [intOf]
            · have hnl := numB_len c1
              generalize numB c1 = nb at *
              go_wp2_with fail
              go_roundw
              case rel => exact ⟨2, Q ++ nb, by omega, by go_num, rfl, by simp; omega, hid (by rw [HT6.out, HQ.out, List.append_assoc]), HB6⟩
              case measure => simp [intOf]
            · have hnl := numB_len c2
              generalize numB c2 = nb at *
              go_wp2_with fail
              go_roundw
              case rel => exact ⟨3, Q ++ nb, by omega, by go_num, rfl, by simp; omega, hid (by rw [HT6.out, HQ.out, List.append_assoc]), HB6⟩
              case measure => simp [intOf]
            · have hnl := numB_len c3
              generalize numB c3 = nb at *
              go_wp2_with fail
              go_roundw
              case rel => exact ⟨4, Q ++ nb, by omega, by go_num, rfl, by simp; omega, hid (by rw [HT6.out, HQ.out, List.append_assoc]), HB6⟩
              case measure => simp [intOf]
          · have hj4 : j = 4 := by omega
            subst hj4
            have HNB := hid (Rnumber_any (cl.length : Int) wr)
            have hnl := numB_len (cl.length : Int)
            have HDZ := hid (show encL (D 0) = encL [c0, c1, c2, c3] ++ numB (cl.length : Int) by rw [HD0.out, encL_app]; congr 1; simp [encL])
            generalize numB (cl.length : Int) = nb at *
            obtain ⟨cHX5, fHX5, sHX5, nHX5⟩ := HX5.out.all
            try simp only [cbox] at cHX5
            go_wp2_with fail
            -- STOP-f
            refine HNB.out.mono ?_
            rintro e w6 ⟨rfl, hb6⟩
            have HB6 := hid (Below.step' HB5.out hb6)
            have HQ6 := hid (show Q ++ nb = EN i ++ encL (D 0) by rw [HDZ.out, HQ.out, List.append_assoc]; rfl)
            have hq6 : (Q ++ nb).length ≤ 60100 := by simp; omega
            clear cHX5 fHX5 sHX5 nHX5
            clear hb6 HNB HDZ
            go_wp2_with fail
            -- STOP-g
            generalize Q ++ nb = Q6 at *
            clear hQ hnl HQ
            go_loopw [3, 7] (fun s3 s7 wr => ∃ (j : Nat) (Q : List UInt8), j ≤ cl.length ∧ s7 = .int .i64 j ∧ s3 = .string (bstr Q) ∧ Q.length ≤ 60100 + 18 * j ∧ Hid (Q = EN i ++ encL (D j)) ∧ Hid (Below W2.heap.size W2 wr)) (fun _ s7 _ => cl.length - (intOf s7).toNat)
            case atStart => exact ⟨0, Q6, by omega, rfl, rfl, by omega, HQ6, HB6⟩
            case round =>
              obtain ⟨j, Q, hj, rfl, rfl, hQ, HQ, HB7⟩ := hrel
              have HX7 := hid (HXT.out.step HB7.out)
              by_cases hjl : j < cl.length
              · have t2 : ((j : Int) < (cl.length : Int)) = True := eq_true (by omega)
                obtain ⟨b, off, rfl, hb, h0, h1⟩ := (HOK.out.1.step HB7.out).dot hjl
                have HDS := hid (HND.out j hjl)
                generalize cl[j] = d at *
                obtain ⟨d1, d2⟩ := d
                simp only at h0 h1
                have HDE := hid (show encL (D (j + 1)) = encL (D j) ++ (numB d1 ++ numB d2) by rw [HDS.out, encL_app, encL_cons, encL_cons, encL_nil, List.append_nil])
                have hn1 := numB_len d1
                have hn2 := numB_len d2
                have HN1 := hid (fun w => Rnumber_any d1 w)
                have HN2 := hid (fun w => Rnumber_any d2 w)
                generalize numB d1 = nb1 at *
                generalize numB d2 = nb2 at *
                have ha1 := fun w => add_str nb1 nb2 w (by omega)
                have ha2 := fun w => add_str Q (nb1 ++ nb2) w (by simp; omega)
                obtain ⟨wi, rfl⟩ : ∃ wx : World, wx = wr := ⟨_, rfl⟩
                obtain ⟨cHX7, fHX7, sHX7, nHX7⟩ := HX7.out.all
                try simp only [cbox] at cHX7
                go_upto_region 14 with fail
                -- STOP-h
                refine region_ext (by kernel_rfl) (by kernel_rfl) (fun hext => ?_)
                repeat (any_goals ((with_reducible refine wpQuiet_step (fun K hK => ?_)); go_simp; first | (with_reducible refine hK _ ?_; clear hK K) | ((with_reducible apply Exists.intro); (with_reducible refine ⟨fun _ => ?_, hK _ ?_⟩); (first | (go_at_call 10; (with_reducible refine ext_call _ ?_ (HN1.out _)); simp) | (go_at_call 10; (with_reducible refine ext_call _ ?_ (HN2.out _)); simp)); clear hK K) | ((with_reducible refine (if_neg ?_).mpr (hK _ ?_)); (decide); clear hK K) | (split <;> (with_reducible refine hK _ ?_; clear hK K))))
                all_goals ((with_reducible refine wpQuiet_nil ?_); clear hext; intro w1 hx1; have hb1 := ext_below hx1; clear hx1)
                -- STOP-i
                all_goals
                  go_wp2_with fail
                  go_roundw
                  case rel => exact ⟨j + 1, Q ++ (nb1 ++ nb2), by omega, by go_num, rfl, by simp; omega, hid (by rw [HDE.out, HQ.out, List.append_assoc]), hid (Below.step' HB7.out hb1)⟩
                  case measure => simp [intOf]; omega
              · have hje : j = cl.length := by omega
                subst hje
                have HNB := hid (Rnumber_any (l.length : Int) wr)
                have hnl := numB_len (l.length : Int)
                have HCZ := hid (show encL (C 0) = encL (D cl.length) ++ numB (l.length : Int) by rw [HC0.out, encL_app]; congr 1; simp [encL])
                generalize numB (l.length : Int) = nb at *
                obtain ⟨wi, rfl⟩ : ∃ wx : World, wx = wr := ⟨_, rfl⟩
                obtain ⟨cHX7, fHX7, sHX7, nHX7⟩ := HX7.out.all
                try simp only [cbox] at cHX7
                go_wp2_with fail
                -- STOP-j
                refine HNB.out.mono ?_
                rintro e w8 ⟨rfl, hb8⟩
                have HB8 := hid (Below.step' HB7.out hb8)
                have HQ8 := hid (show Q ++ nb = EN i ++ encL (C 0) by rw [HCZ.out, HQ.out, List.append_assoc])
                have hq8 : (Q ++ nb).length ≤ 70000 := by simp; omega
                clear cHX7 fHX7 sHX7 nHX7
                clear hb8 HNB HCZ
                go_wp2_with fail
                -- STOP-k
                generalize Q ++ nb = Q8 at *
                clear hQ hnl HQ
                go_loopw [3, 8] (fun s3 s8 wr => ∃ (j : Nat) (Q : List UInt8), j ≤ l.length ∧ s8 = .int .i64 j ∧ s3 = .string (bstr Q) ∧ Q.length ≤ 70000 + 45 * j ∧ Hid (Q = EN i ++ encL (C j)) ∧ Hid (Below W2.heap.size W2 wr)) (fun _ s8 _ => l.length - (intOf s8).toNat)
                case atStart => exact ⟨0, Q8, by omega, rfl, rfl, by omega, HQ8, HB8⟩
                case round =>
                  obtain ⟨j, Q, hj, rfl, rfl, hQ, HQ, HB9⟩ := hrel
                  have HX9 := hid (HXT.out.step HB9.out)
                  by_cases hjl : j < l.length
                  · have t2 : ((j : Int) < (l.length : Int)) = True := eq_true (by omega)
                    obtain ⟨b, off, rfl, hb, h0, h1, h2, h3, h4⟩ := (HOK.out.2.2.1.step HB9.out).cel5 hjl
                    have HCS := hid (HNC.out j hjl)
                    generalize l[j] = x at *
                    obtain ⟨⟨x1, x2⟩, x3, x4, x5⟩ := x
                    simp only at h0 h1 h2 h3 h4
                    have HCE := hid (show encL (C (j + 1)) = encL (C j) ++ (((((numB x1 ++ numB x2) ++ numB x3) ++ numB x4) ++ numB x5)) by
                      rw [HCS.out, encL_app]; congr 1; simp [encL, celNs])
                    have hn1 := numB_len x1
                    have hn2 := numB_len x2
                    have hn3 := numB_len x3
                    have hn4 := numB_len x4
                    have hn5 := numB_len x5
                    have HN1 := hid (fun w => Rnumber_any x1 w)
                    have HN2 := hid (fun w => Rnumber_any x2 w)
                    have HN3 := hid (fun w => Rnumber_any x3 w)
                    have HN4 := hid (fun w => Rnumber_any x4 w)
                    have HN5 := hid (fun w => Rnumber_any x5 w)
                    generalize numB x1 = nb1 at *
                    generalize numB x2 = nb2 at *
                    generalize numB x3 = nb3 at *
                    generalize numB x4 = nb4 at *
                    generalize numB x5 = nb5 at *
                    have ha1 := fun w => add_str nb1 nb2 w (by omega)
                    have hm2 : (nb1 ++ nb2).length ≤ 18 := by simp; omega
                    generalize nb1 ++ nb2 = m2 at *
                    have ha2 := fun w => add_str m2 nb3 w (by omega)
                    have hm3 : (m2 ++ nb3).length ≤ 27 := by simp; omega
                    generalize m2 ++ nb3 = m3 at *
                    have ha3 := fun w => add_str m3 nb4 w (by omega)
                    have hm4 : (m3 ++ nb4).length ≤ 36 := by simp; omega
                    generalize m3 ++ nb4 = m4 at *
                    have ha4 := fun w => add_str m4 nb5 w (by omega)
                    have hm5 : (m4 ++ nb5).length ≤ 45 := by simp; omega
                    generalize m4 ++ nb5 = m5 at *
                    have ha5 := fun w => add_str Q m5 w (by omega)
                    obtain ⟨wj, rfl⟩ : ∃ wx : World, wx = wr := ⟨_, rfl⟩
                    have hnb : (b = wj.heap.size) = False := by simp; omega
                    obtain ⟨W3, hW3⟩ : ∃ W3 : World, W3 = wj.alloc (.cells #[.int .i64 x1, .int .i64 x2, .int .i64 x3, .int .i64 x4, .int .i64 x5] 53) := ⟨_, rfl⟩
                    have HB3 := hid (show Below wj.heap.size wj W3 by rw [hW3]; exact alloc_below (Below.refl _ _) _)
                    have HX3 := hid (show Blk W3 wj.heap.size #[.int .i64 x1, .int .i64 x2, .int .i64 x3, .int .i64 x4, .int .i64 x5] 53 by rw [hW3]; exact Blk.new _ _ _)
                    obtain ⟨cHX9, fHX9, sHX9, nHX9⟩ := HX9.out.all
                    try simp only [cbox] at cHX9
                    go_upto_region 20 with fail
                    -- STOP-l
                    rw [← hW3]
                    clear hW3 h0 h1 h2 h3 h4
                    clear cHX9 fHX9 sHX9 nHX9
                    obtain ⟨cHX3, fHX3, sHX3, nHX3⟩ := HX3.out.all
                    try simp only [cbox] at cHX3
                    refine region_ext (by kernel_rfl) (by kernel_rfl) (fun hext => ?_)
                    repeat (any_goals ((with_reducible refine wpQuiet_step (fun K hK => ?_)); go_simp; first | (with_reducible refine hK _ ?_; clear hK K) | ((with_reducible apply Exists.intro); (with_reducible refine ⟨fun _ => ?_, hK _ ?_⟩); (first | (go_at_call 10; (with_reducible refine ext_call _ ?_ (HN1.out _)); simp) | (go_at_call 10; (with_reducible refine ext_call _ ?_ (HN2.out _)); simp) | (go_at_call 10; (with_reducible refine ext_call _ ?_ (HN3.out _)); simp) | (go_at_call 10; (with_reducible refine ext_call _ ?_ (HN4.out _)); simp) | (go_at_call 10; (with_reducible refine ext_call _ ?_ (HN5.out _)); simp)); clear hK K) | ((with_reducible refine (if_neg ?_).mpr (hK _ ?_)); (decide); clear hK K) | (split <;> (with_reducible refine hK _ ?_; clear hK K))))
                    all_goals ((with_reducible refine wpQuiet_nil ?_); clear hext; intro w1 hx1; have hb1 := ext_below hx1; clear hx1)
                    -- STOP-m
                    all_goals
                      go_wp2_with fail
                      go_roundw
                      case rel => exact ⟨j + 1, Q ++ m5, by omega, by go_num, rfl, by simp; omega, hid (by rw [HCE.out, HQ.out, List.append_assoc]), hid (Below.step' HB9.out (Below.step' HB3.out hb1))⟩
                      case measure => simp [intOf]; omega
                  · have hje : j = l.length := by omega
                    subst hje
                    obtain ⟨cHX9, fHX9, sHX9, nHX9⟩ := HX9.out.all
                    try simp only [cbox] at cHX9
                    go_wp2_with fail
                    -- STOP-n
                    have hQE : Q = EN (i + 1) := by rw [HQ.out, HES.out, HNA.out]
                    go_roundw
                    case rel => exact ⟨i + 1, by omega, by go_num, hid (by rw [HES.out, List.length_append]; omega), by rw [hQE], hid (Below.step' HB2.out HB9.out)⟩
                    case measure => simp [intOf]; omega
    · have hi2 : i = 2 := by omega
      subst hi2
      have hel : (EN 2).length ≤ 60000 := by have := HEL.out; omega
      have HSM := hid (Rsum_any (EN 2) wr (by omega))
      have hN := sumB_lt (EN 2)
      have HR4 := hid (rest4_sum (sumB (EN 2)))
      generalize sumB (EN 2) = N at *
      obtain ⟨wo, rfl⟩ : ∃ wx : World, wx = wr := ⟨_, rfl⟩
      go_wp2_with fail
      -- STOP-o
      refine HSM.out.mono ?_
      rintro e w5 ⟨rfl, rfl⟩
      clear HSM
      go_wp2_with fail
      -- STOP-p
      go_loopw [3, 10, 11] (fun s3 s10 s11 wr => ∃ (j M : Nat) (Q : List UInt8), j ≤ 4 ∧ s11 = .int .i64 j ∧ s10 = .int .u32 (M : Int) ∧ M < 4294967296 ∧ s3 = .string (bstr Q) ∧ Q.length ≤ 60000 + j ∧ Hid (Q ++ rest4 (4 - j) M = S) ∧ Hid (Below W.heap.size W wr)) (fun _ _ s11 _ => 4 - (intOf s11).toNat)
      case atStart => exact ⟨0, N, EN 2, by omega, rfl, rfl, hN, rfl, by omega, hid (by rw [HS.out]; exact congrArg _ HR4.out), HBR⟩
      case round =>
        obtain ⟨j, M, Q, hj, rfl, rfl, hM, rfl, hQ, HQ, HB5⟩ := hrel
        by_cases hjl : j < 4
        · have t2 : ((j : Int) < 4) = True := eq_true (by omega)
          have HQ2 := hid (show (Q ++ [UInt8.ofNat (M % 256)]) ++ rest4 (4 - (j + 1)) (M / 256) = S by
            rw [← HQ.out, show 4 - j = (4 - (j + 1)) + 1 by omega, rest4, List.append_assoc]; rfl)
          have hbt : ((M : Int) % 256) = ((UInt8.ofNat (M % 256)).toNat : Int) := by rw [b8_of _ (by omega)]; omega
          obtain ⟨bt, hBT⟩ : ∃ b, b = UInt8.ofNat (M % 256) := ⟨_, rfl⟩
          rw [← hBT] at hbt HQ2
          clear hBT
          have hb := b8_lt bt
          have hcv : (convert 47 9 (.slice (some ⟨wr.heap.size, 0, none⟩) 1 1)).run Try.prog (wr.alloc (.cells #[.int .u8 (bt.toNat : Int)] 5)) = .ok (.string (bstr [bt])) (wr.alloc (.cells #[.int .u8 (bt.toNat : Int)] 5)) := conv_row (l := [bt]) (Row.new' wr _ _ rfl rfl (Nat.lt_succ_self _)) (by simp)
          go_wp2_with fail
          -- STOP-q
          go_roundw
          case rel => exact ⟨j + 1, M / 256, Q ++ [bt], by omega, by go_num, by first | rfl | (congr 1 <;> omega), by omega, rfl, by simp; omega, HQ2, hid (Below.step' HB5.out (alloc_below (Below.refl _ _) _))⟩
          case measure => simp [intOf]; omega
        · have hj4 : j = 4 := by omega
          subst hj4
          have HQE := hid (show Q = S by rw [← HQ.out]; simp [rest4])
          go_wp2_with fail
          -- STOP-r
          go_ret
          exact ⟨by rw [HQE.out]; rfl, Below.step' HBW.out HB5.out⟩
end Go.Proofs.Ytnnabfjlmenmgaa
/- viewlaw.WireSays. -/
namespace Go.Proofs.Ytnnabfjlmenmgaa
set_option linter.unusedVariables false
set_option linter.unusedSimpArgs false
open Go.ChangeShapes Go.WideShapes Go.ChangeAt Go.RowKit

theorem codeE_first {x y : Tab} (h : tabI x ≠ 0) : codeE x y = tabI x := by unfold codeE; rw [if_pos h]
theorem codeE_second {x y : Tab} (h : tabI x = 0) : codeE x y = tabI y := by unfold codeE; rw [if_neg (by simp [h])]

set_option maxHeartbeats 1000000 in
set_option maxRecDepth 100000 in
theorem wireSays_any (n : Int) (L : List UInt8) (hL : L.length ≤ 9223372036854775807) (x y : TR) (w : World) (hx : x.ok w) (hy : y.ok w) :
    Calls Try.prog 3 #[.int .i64 n, .string (bstr L), .agg (pboxT x y)] w fun e w' => e = .returned (.bool true) ∧ Below w.heap.size w w' := by
  have HX := hid hx
  have HY := hid hy
  have HEN := hid (fun w1 (hb : Below w.heap.size w w1) => encode_any x y w1 (hx.step hb) (hy.step hb))
  have HCD := hid (fun (h1 : tabI x.t = 0) (h2 : tabI y.t = 0) w1 (hb : Below w.heap.size w w1) => coded_any x y w1 (hx.step hb) (hy.step hb) h1 h2)
  have HTX := hid (fun w1 (hb : Below w.heap.size w w1) => rtable_any x.t x.A x.k x.B x.m w1 (hx.step hb).1 hx.2.1 (hx.step hb).2.2.1 hx.2.2.2)
  have HTY := hid (fun w1 (hb : Below w.heap.size w w1) => rtable_any y.t y.A y.k y.B y.m w1 (hy.step hb).1 hy.2.1 (hy.step hb).2.2.1 hy.2.2.2)
  have HE1 := hid (@codeE_first x.t y.t)
  have HE2 := hid (@codeE_second x.t y.t)
  have HS := hid (show codeS x.t y.t = if codeE x.t y.t = 0 then codeP x.t y.t else [] from rfl)
  obtain ⟨E, hE⟩ : ∃ q, q = codeE x.t y.t := ⟨_, rfl⟩
  obtain ⟨S, hS⟩ : ∃ q, q = codeS x.t y.t := ⟨_, rfl⟩
  obtain ⟨P, hP⟩ : ∃ q, q = codeP x.t y.t := ⟨_, rfl⟩
  obtain ⟨E1, hE1⟩ : ∃ q, q = tabI x.t := ⟨_, rfl⟩
  obtain ⟨E2, hE2⟩ : ∃ q, q = tabI y.t := ⟨_, rfl⟩
  rw [← hE1, ← hE] at HE1
  rw [← hE1, ← hE2, ← hE] at HE2
  rw [← hS, ← hE, ← hP] at HS
  rw [← hE, ← hS] at HEN
  rw [← hE1, ← hE2, ← hP] at HCD
  rw [← hE1] at HTX
  rw [← hE2] at HTY
  clear hE hS hP hE1 hE2 hx hy
  obtain ⟨W, hW⟩ : ∃ W : World, W = w.alloc (.cells (pboxT x y) 31) := ⟨_, rfl⟩
  have HBW := hid (show Below w.heap.size w W by rw [hW]; exact alloc_below (Below.refl _ _) _)
  have HXA := hid (show Blk W w.heap.size (pboxT x y) 31 by rw [hW]; exact Blk.new _ _ _)
  have HNA := hid (fun w => number_any n w)
  have HNB := hid (fun w => Rnumber_any n w)
  have HSA := hid (fun w => sumS_any L w hL)
  have HSB := hid (fun w => Rsum_any L w hL)
  go_enter Try.func3, Try.ntmps3
  go_upto_region 1 with fail
  rw [← hW]
  clear hW
  obtain ⟨cHXA, fHXA, sHXA, nHXA⟩ := HXA.out.all
  try simp only [cbox] at cHXA
  go_wp2_with fail
  -- STOP-a
  refine (HTX.out _ HBW.out).mono ?_
  rintro e w1 ⟨rfl, hb1⟩
  clear cHXA fHXA sHXA nHXA
  have HX1 := hid (HXA.out.step hb1)
  replace HBW := hid (Below.step' HBW.out hb1)
  clear hb1
  by_cases q1 : E1 = 0
  rotate_left
  · have t1 : (E1 == 0) = false := by simpa using q1
    have hE := HE1.out q1
    subst hE
    have HSE := hid (show S = [] by rw [HS.out, if_neg q1])
    clear q1
    obtain ⟨cHX1, fHX1, sHX1, nHX1⟩ := HX1.out.all
    try simp only [cbox] at cHX1
    go_wp2_with fail
    -- STOP-b
    refine (HEN.out _ HBW.out).mono ?_
    rintro e w2 ⟨rfl, hb2⟩
    rw [HSE.out]
    replace HBW := hid (Below.step' HBW.out hb2)
    clear hb2
    go_wp2_with fail
    refine (HNA.out _).mono ?_
    rintro e w3 ⟨rfl, hb3⟩
    replace HBW := hid (Below.step' HBW.out hb3)
    clear hb3
    go_wp2_with fail
    refine (HNB.out _).mono ?_
    rintro e w4 ⟨rfl, hb4⟩
    replace HBW := hid (Below.step' HBW.out hb4)
    clear hb4
    go_wp2_with fail
    -- STOP-c
    refine (HSA.out _).mono ?_
    rintro e w5 ⟨rfl, rfl⟩
    go_wp2_with fail
    refine (HSB.out _).mono ?_
    rintro e w6 ⟨rfl, rfl⟩
    go_wp2_with fail
    -- STOP-d
    go_ret
    exact ⟨rfl, HBW.out⟩
  · subst q1
    have hE := HE2.out rfl
    subst hE
    obtain ⟨cHX1, fHX1, sHX1, nHX1⟩ := HX1.out.all
    try simp only [cbox] at cHX1
    go_wp2_with fail
    -- STOP-e
    refine (HTY.out _ HBW.out).mono ?_
    rintro e w1' ⟨rfl, hb1⟩
    clear cHX1 fHX1 sHX1 nHX1
    replace HX1 := hid (HX1.out.step hb1)
    replace HBW := hid (Below.step' HBW.out hb1)
    clear hb1
    by_cases q2 : E = 0
    rotate_left
    · have t1 : (E == 0) = false := by simpa using q2
      have HSE := hid (show S = [] by rw [HS.out, if_neg q2])
      clear q2
      obtain ⟨cHX1, fHX1, sHX1, nHX1⟩ := HX1.out.all
      try simp only [cbox] at cHX1
      go_wp2_with fail
      refine (HEN.out _ HBW.out).mono ?_
      rintro e w2 ⟨rfl, hb2⟩
      rw [HSE.out]
      replace HBW := hid (Below.step' HBW.out hb2)
      clear hb2
      go_wp2_with fail
      refine (HNA.out _).mono ?_
      rintro e w3 ⟨rfl, hb3⟩
      replace HBW := hid (Below.step' HBW.out hb3)
      clear hb3
      go_wp2_with fail
      refine (HNB.out _).mono ?_
      rintro e w4 ⟨rfl, hb4⟩
      replace HBW := hid (Below.step' HBW.out hb4)
      clear hb4
      go_wp2_with fail
      refine (HSA.out _).mono ?_
      rintro e w5 ⟨rfl, rfl⟩
      go_wp2_with fail
      refine (HSB.out _).mono ?_
      rintro e w6 ⟨rfl, rfl⟩
      go_wp2_with fail
      go_ret
      exact ⟨rfl, HBW.out⟩
    · subst q2
      have HSE := hid (show S = P by rw [HS.out, if_pos rfl])
      obtain ⟨cHX1, fHX1, sHX1, nHX1⟩ := HX1.out.all
      try simp only [cbox] at cHX1
      go_wp2_with fail
      refine (HCD.out (by first | rfl | trivial) (by first | rfl | trivial) _ HBW.out).mono ?_
      rintro e w7 ⟨rfl, hb7⟩
      clear cHX1 fHX1 sHX1 nHX1
      replace HX1 := hid (HX1.out.step hb7)
      replace HBW := hid (Below.step' HBW.out hb7)
      clear hb7
      obtain ⟨cHX1, fHX1, sHX1, nHX1⟩ := HX1.out.all
      try simp only [cbox] at cHX1
      go_wp2_with fail
      refine (HEN.out _ HBW.out).mono ?_
      rintro e w2 ⟨rfl, hb2⟩
      rw [HSE.out]
      replace HBW := hid (Below.step' HBW.out hb2)
      clear hb2
      go_wp2_with fail
      refine (HNA.out _).mono ?_
      rintro e w3 ⟨rfl, hb3⟩
      replace HBW := hid (Below.step' HBW.out hb3)
      clear hb3
      go_wp2_with fail
      refine (HNB.out _).mono ?_
      rintro e w4 ⟨rfl, hb4⟩
      replace HBW := hid (Below.step' HBW.out hb4)
      clear hb4
      go_wp2_with fail
      refine (HSA.out _).mono ?_
      rintro e w5 ⟨rfl, rfl⟩
      go_wp2_with fail
      refine (HSB.out _).mono ?_
      rintro e w6 ⟨rfl, rfl⟩
      go_wp2_with fail
      go_ret
      exact ⟨rfl, HBW.out⟩
end Go.Proofs.Ytnnabfjlmenmgaa
/- Arguments that are packets or strings, as a claim reads them. -/
namespace Go.Proofs.Ytnnabfjlmenmgaa
set_option linter.unusedVariables false
set_option linter.unusedSimpArgs false
open Go.ChangeShapes Go.WideShapes Go.ChangeAt Go.RowKit Go.Deep

theorem bstr_of (s : ByteArray) : bstr s.data.toList = s := rfl
set_option maxRecDepth 100000 in
theorem arg_str {H : Type} {enc : TypeId × Value → H} {w : World} {r : Reach} {b0 base : Nat} {spare : Nat → Bool} {held : Bool} {v : Value} {d : DataW H} {p : List MemPlace}
    (hv : Value.okWide Try.prog w r b0 9 v) (h : DataW.Trod enc Try.prog w base spare held 9 v d p) :
    ∃ L : List UInt8, v = .string (bstr L) ∧ L.length ≤ 9223372036854775807 := by
  obtain ⟨s, rfl, -, -, hs⟩ := Go.ChangeMaps.open_string Try.underlying9 hv h
  refine ⟨s.data.toList, by rw [bstr_of], ?_⟩
  have : s.data.toList.length = s.size := by rw [Array.length_toList]; rfl
  simp only [maxLen] at hs
  omega
set_option maxRecDepth 100000 in
theorem open_pac_cells {H : Type} {enc : TypeId × Value → H} {w : World} {base n : Nat} {spare : Nat → Bool} {held : Bool} {cs : List Value} {x : DataW H × List MemPlace}
    (h : DataW.trod enc Try.prog w base spare held n 31 cs = some x) :
    ∃ a b : TR, cs = (pboxT a b).toList ∧ a.ok w ∧ b.ok w := by
  obtain ⟨xs, n', _, hx, hlen, hxl, hf⟩ := DataW.trod_struct Try.underlying31 h
  have c12 : Try.prog.cellsOf 31 = 12 := by kernel_rfl
  have c12' : Try.prog.cellsOf 29 = 12 := by kernel_rfl
  have c6 : Try.prog.cellsOf 28 = 6 := by kernel_rfl
  rw [c12] at hlen
  match cs, hlen with
  | [u0, u1, u2, u3, u4, u5, u6, u7, u8, u9, u10, u11], _ =>
    match xs, hxl with
    | [y0], _ =>
      have h0 := hf 0 _ rfl
      simp only [List.getElem_toArray, List.getElem_cons_zero, List.getElem_cons_succ, List.getElem?_cons_zero, List.getElem?_cons_succ] at h0
      simp only [c12', List.drop_zero, List.take_succ_cons, List.take_zero] at h0
      obtain ⟨ys, m, _, ex, hl, hyl, hel⟩ := DataW.trod_array Try.underlying29 h0
      match ys, hyl with
      | [z0, z1], _ =>
        have e0 := hel 0 (by omega)
        have e1 := hel 1 (by omega)
        simp only [c6, Nat.zero_mul, Nat.one_mul, List.drop_zero, List.take_succ_cons, List.take_zero, List.drop_succ_cons, List.getElem?_cons_zero, List.getElem?_cons_succ] at e0 e1
        obtain ⟨t, A, k, B, m', q, r1, l1, r2, l2⟩ := open_tab_cells e0
        obtain ⟨t', A', k', B', m'', q', r1', l1', r2', l2'⟩ := open_tab_cells e1
        simp only [List.cons.injEq, and_true] at q q'
        obtain ⟨rfl, rfl, rfl, rfl, rfl, rfl⟩ := q
        obtain ⟨rfl, rfl, rfl, rfl, rfl, rfl⟩ := q'
        exact ⟨⟨t, A, k, B, m'⟩, ⟨t', A', k', B', m''⟩, rfl, ⟨r1, l1, r2, l2⟩, ⟨r1', l1', r2', l2'⟩⟩
set_option maxRecDepth 100000 in
theorem arg_packet {H : Type} {enc : TypeId × Value → H} {w : World} {r : Reach} {b0 base : Nat} {spare : Nat → Bool} {held : Bool} {v : Value} {d : DataW H} {p : List MemPlace}
    (hv : Value.okWide Try.prog w r b0 31 v) (h : DataW.Trod enc Try.prog w base spare held 31 v d p) :
    ∃ a b : TR, v = .agg (pboxT a b) ∧ a.ok w ∧ b.ok w := by
  obtain ⟨⟨cs⟩, rfl, _⟩ := okWide_struct Try.underlying31 hv
  obtain ⟨n, hn⟩ := h
  obtain ⟨a, b, e, ha, hb⟩ := open_pac_cells hn
  simp only [Value.cells] at e
  subst e
  exact ⟨a, b, rfl, ha, hb⟩
end Go.Proofs.Ytnnabfjlmenmgaa
