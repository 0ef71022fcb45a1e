/- ZsB, ZsC, ZsD, RkA, LinP, PlP -/
import Derived.Test.YtldlmkfigjicgaaDoorCk03
import Derived.Test.YtldlmkfigjicgaaDoorCk02
import Derived.WalkSpells
import Derived.Deep.CutBlock
import Derived.Deep.CutRange
import Derived.Test.YtldlmkfigjicgaaDoorCk01
/- The stable sort over a row of items that the call owns, nil too; slices.Clone at int. -/
namespace Go.Proofs.YtldlmkfigjicgaaDoor
set_option linter.unusedVariables false
set_option linter.unusedSimpArgs false
open Go.ChangeShapes Go.WideShapes Go.ChangeAt Go.RowKit Go.Shelf Go.Lib Go.Sort

theorem zflat_flatK {α : Type} [Inhabited α] (f : α → List Value) (k : Nat) (hf : ∀ x, (f x).length = k) (hk : 0 < k) (l : List α) : (l.flatMap f).toArray = flatK f k l.toArray := by
  apply Array.ext
  · rw [List.size_toArray, flat_len hf, size_flatK, List.size_toArray]
  · intro i h1 h2
    have hi : i < l.length * k := by rw [List.size_toArray, flat_len hf] at h1; exact h1
    have hq : i / k < l.length := Nat.div_lt_of_lt_mul (by rw [Nat.mul_comm]; exact hi)
    have e := get_flatK f k l.toArray i (by rw [List.size_toArray]; exact hi)
    rw [getElem!_pos _ i h2] at e
    rw [e]
    have g := flat_get hf l (i / k) hq (i % k) (Nat.mod_lt _ hk)
    rw [Nat.div_add_mod' i k] at g
    have hl : l.toArray[i / k]! = l[i / k] := by simp [hq]
    rw [hl]
    have h3 : i % k < (f l[i / k]).length := by rw [hf]; exact Nat.mod_lt _ hk
    rw [getElem!_pos (f l[i / k]) (i % k) h3]
    have h4 : i < (l.flatMap f).length := by rw [flat_len hf]; exact hi
    rw [List.getElem?_eq_getElem h4, List.getElem?_eq_getElem h3] at g
    injection g with g
theorem take_get {cur : Array Value} {n : Nat} {xs : List Value} (h : cur.toList.take n = xs) {j : Nat} (hj : j < xs.length) : cur[j]? = xs[j]? := by
  subst h
  rw [List.getElem?_take_of_lt (by simp at hj; omega)]
  simp
theorem own_holds {α : Type} [Inhabited α] (f : α → List Value) (hf : ∀ x, (f x).length = 2) {w : World} {g : Nat} {l : List α} {cur : Array Value} {T : TypeId} (hg : w.heap[g]? = some (.cells cur T (0, 0))) (hc : cur.toList.take (l.length * 2) = l.flatMap f) : HoldsK f 2 w g 0 l.toArray := by
  intro j hj
  rw [← zflat_flatK f 2 hf (by decide)] at hj ⊢
  have hj' : j < (l.flatMap f).length := by simpa using hj
  have e := take_get hc hj'
  have e2 : (l.flatMap f).toArray[j]! = (l.flatMap f)[j] := by
    rw [getElem!_pos _ j hj]; simp
  rw [e2]
  constructor
  · rw [Nat.zero_add, cell_of_row w g j cur T (0, 0) hg, e, List.getElem?_eq_getElem hj']; rfl
  · simp [World.frozen?, hg]
theorem own_sorted {α : Type} [Inhabited α] (f : α → List Value) (hf : ∀ x, (f x).length = 2) {w : World} {B cap g n : Nat} {l' : List α} {cur : Array Value} {T : TypeId} {os : Array Obj} (hb : B ≤ g) (hg : w.heap[g]? = some (.cells cur T (0, 0))) (hcap : l'.length ≤ cap) (hm : cap ≤ maxLen) (hs : cur.size = cap * 2) :
    (sortWorldK f 2 w g 0 n l'.toArray os).ownsRow B T 2 (.slice (some ⟨g, 0, none⟩) l'.length cap) l'.length (l'.flatMap f) := by
  have hlt : g < w.heap.size := by
    rcases Nat.lt_or_ge g w.heap.size with h | h
    · exact h
    · rw [Array.getElem?_eq_none h] at hg; cases hg
  have hnew : (sortWorldK f 2 w g 0 n l'.toArray os).heap[g]? = some (.cells (putCells id 0 (flatK f 2 l'.toArray) cur) T (0, 0)) := by
    unfold sortWorldK grow Sort.putRowK putRow mapBlock Sort.ahead
    simp only [Array.getElem?_append, Array.size_modify, hlt, if_true, Array.getElem?_modify, hg, Option.map_some]
    rfl
  refine ⟨by rw [flat_len hf], .inr ⟨g, cap, _, rfl, hb, hnew, hcap, hm, by simp [putCells, hs], ?_⟩⟩
  rw [← zflat_flatK f 2 hf (by decide)]
  apply List.ext_getElem?
  intro j
  by_cases hj : j < (l'.flatMap f).length
  · have hj2 : j < l'.length * 2 := by rw [flat_len hf] at hj; exact hj
    have hjc : j < cur.size := by rw [hs]; omega
    rw [List.getElem?_take_of_lt hj2]
    simp only [putCells, Array.toList_mapIdx, List.getElem?_mapIdx]
    have : cur.toList[j]? = some cur.toList[j] := List.getElem?_eq_getElem (by simpa using hjc)
    rw [this]
    simp only [Option.map_some, Nat.zero_le, Nat.zero_add, List.size_toArray, hj, and_self, if_true, Nat.sub_zero, id]
    rw [getElem!_pos _ j (by simpa using hj), List.getElem?_eq_getElem hj]
    simp
  · rw [List.getElem?_eq_none (Nat.le_of_not_lt hj), List.getElem?_eq_none]
    rw [List.length_take]
    rw [flat_len hf] at hj
    omega

set_option maxRecDepth 100000 in
theorem ins_none (c : Nat) (f : Value) (w : World) : Calls Tryd.prog 72 #[.slice none 0 c, .int .i64 0, .int .i64 0, f] w fun e w' => e = .returned (.tuple #[]) ∧ w = w' := by
  go_enter Tryd.func72, Tryd.ntmps72
  go_wp2
  refine wp_loop_rounds 1 ?_
  rw [rounds_succ]
  go_wp2
  go_end0
  exact ⟨rfl, rfl⟩
set_option maxRecDepth 100000 in
theorem stable_none (c : Nat) (f : Value) (w : World) : Calls Tryd.prog 86 #[.slice none 0 c, .int .i64 0, f] w fun e w' => e = .returned (.tuple #[]) ∧ w = w' := by
  go_enter Tryd.func86, Tryd.ntmps86
  go_wp2
  refine wp_loop_rounds 1 ?_
  rw [rounds_succ]
  go_wp2_with (go_at_call 72; refine (ins_none _ _ _).mono ?_; rintro e w' ⟨rfl, rfl⟩)
  refine wp_loop_rounds 1 ?_
  rw [rounds_succ]
  go_wp2
  go_end0
  exact ⟨rfl, rfl⟩
set_option maxRecDepth 100000 in
theorem sortStable_none (c : Nat) (f : Value) (w : World) : Calls Tryd.prog 64 #[.slice none 0 c, f] w fun e w' => e = .returned (.tuple #[]) ∧ w = w' := by
  go_enter Tryd.func64, Tryd.ntmps64
  go_wp2_with (go_at_call 86; refine (stable_none _ _ _).mono ?_; rintro e w' ⟨rfl, rfl⟩)
  go_end0
  exact ⟨rfl, rfl⟩

theorem perm_all {α : Type} {d d' : Array α} [Inhabited α] (h : PermIn 0 d.size d d') : d'.toList.Perm d.toList := by
  have h2 := h.2.2
  have e1 : d'.extract 0 d.size = d' := by rw [← h.1]; simp
  have e2 : d.extract 0 d.size = d := by simp
  rwa [e1, e2] at h2
theorem attach_val {Q : IR → Prop} : ∀ (L : List IR) (h : ∀ x ∈ L, Q x), (L.attachWith Q h).map Subtype.val = L := fun L h => by simp
theorem cells_val {Q : IR → Prop} (l : List (QI Q)) : l.flatMap (QI.cells (Q := Q)) = rcells (l.map Subtype.val) := by
  rw [rcells, List.flatMap_map]

/-- The stable sort over a row that the call owns (nil too). -/
theorem zsortI_own {B : Nat} {v : Value} (L : List IR) (w : World) (hown : w.ownsRow B 51 2 v L.length (rcells L)) (hr : RowsAt w B L) (hB : B ≤ w.heap.size) (hl : L.length ≤ 1152921504606846975) :
    Calls Tryd.prog 64 #[v, .func (.func 65) #[] #[]] w fun e w' => e = .returned (.tuple #[]) ∧ ∃ L' : List IR, L'.Perm L ∧ Rising (its L') ∧ w'.ownsRow B 51 2 v L.length (rcells L') ∧ w.grownBy w' v.ownBlock := by
  rcases hown.2 with ⟨rfl, h0⟩ | ⟨g, cap, cur, rfl, hb, hg, hcap, hm, hs, ht⟩
  · have hl0 : L = [] := List.eq_nil_of_length_eq_zero h0
    subst hl0
    refine (sortStable_none 0 _ w).mono fun e w' ⟨he, hw⟩ => ?_
    subst hw
    exact ⟨he, [], List.Perm.refl _, fun i j hi _ _ => by simp at hi, hown, ⟨rfl, rfl, rfl, Nat.le_refl _, fun _ _ _ => rfl⟩⟩
  · have hlt : g < w.heap.size := by
      rcases Nat.lt_or_ge g w.heap.size with h | h
      · exact h
      · rw [Array.getElem?_eq_none h] at hg; cases hg
    have hv := attach_val L (Q := RowQ w B) hr
    obtain ⟨l, hL⟩ : ∃ l : List (QI (RowQ w B)), l = L.attachWith (RowQ w B) hr := ⟨_, rfl⟩
    rw [← hL] at hv
    have hln : l.length = L.length := by rw [← hv, List.length_map]
    have hcells : l.flatMap QI.cells = rcells L := by rw [cells_val, hv]
    have R : RowK (QI.cells (Q := RowQ w B)) 2 w g 0 l.toArray := ⟨fun _ => rfl, fun x u hu => by simp only [QI.cells, IR.cells, List.mem_cons, List.not_mem_nil, or_false] at hu; rcases hu with rfl | rfl <;> rfl, own_holds _ (fun _ => rfl) hg (by rw [hln, ht, hcells]), hlt⟩
    have hc := sortStable_raw (itCf (Q := RowQ w B)) 65 #[] g 0 cap l.toArray w enters_sum1 (cmpLays_sum1 w B g 0 l.toArray.size hB hb) R swo_itCf (by rw [List.size_toArray, hln]; omega)
    rw [show l.toArray.size = L.length by rw [List.size_toArray, hln]] at hc
    refine hc.mono fun e w' ⟨he, d', hp, hsrt, n, os, hw⟩ => ?_
    rw [show L.length = l.toArray.size by rw [List.size_toArray, hln]] at hp hsrt
    have hperm := perm_all hp
    have hd : d' = d'.toList.toArray := by simp
    have hdl : d'.toList.length = L.length := by rw [hperm.length_eq]; simpa using hln
    have ho := own_sorted (QI.cells (Q := RowQ w B)) (fun _ => rfl) (l' := d'.toList) (n := n) (os := os) hb hg (by rw [hdl]; exact hcap) hm hs
    rw [← hd, ← hw, cells_val, hdl] at ho
    refine ⟨he, d'.toList.map Subtype.val, ?_, ?_, ho, ?_⟩
    · have := hperm.map Subtype.val
      rw [hv] at this
      exact this
    · intro i j hi hj hij
      simp only [its, List.length_map] at hi hj
      have h1 := hsrt i j (Nat.zero_le _) hij (by rw [List.size_toArray, hln, ← hdl]; exact hj)
      have hi' : i < d'.size := by simpa using hi
      have hj' : j < d'.size := by simpa using hj
      rw [getElem!_pos d' i hi', getElem!_pos d' j hj'] at h1
      have h3 : ¬ (cmpL (d'[j]).1.row (d'[i]).1.row < 0) := of_decide_eq_false h1
      have h2 := cmpL_neg (d'[i]).1.row (d'[j]).1.row
      simp only [its, List.getElem_map, Array.getElem_toList, IR.it]
      omega
    · rw [hw]
      exact sortWorldK_grown _ 2 w g 0 n d' os

theorem elem_int : Elem Tryd.prog 23 3 1 8 := ⟨Tryd.underlying23, by
  obtain ⟨i, hi, hz, hs, hb⟩ := info_parts (P := Tryd.prog) (e := 3) (z := .int .i64 0) (size := 1) (bytes := 8) (by kernel_rfl)
  exact ⟨i, _, hi, hz, hs, hb, rfl⟩, by decide⟩
set_option maxHeartbeats 400000 in
set_option maxRecDepth 100000 in
theorem cloneI_any (l : List Int) (A : Option Addr) (c : Nat) (w : World) (hr : Row w w.heap.size A (icells' l)) (hl : l.length ≤ 1048576) :
    Calls Tryd.prog 29 #[.slice A l.length c] w fun e w' => ∃ A' c', e = .returned (.slice A' l.length c') ∧ RowOwn w' A' l c' ∧ NewAt w.heap.size A' ∧ (∀ b off q, A' = some ⟨b, off, q⟩ → b < w'.heap.size) ∧ Below w.heap.size w w' := by
  rcases A with _ | ad
  · have he : l = [] := by
      rcases hr with h | ⟨b, off, h, _⟩
      · simpa using h
      · cases h
    subst he
    have hnil := fun (w : World) => Lib.run_eql_slice_nil w (P := Tryd.prog) (t := 23) (e := 3) none 0 c 0 0 Tryd.underlying23
    go_enter Tryd.func29, Tryd.ntmps29
    go_wp2
    go_ret
    exact ⟨none, 0, rfl, ⟨Row.nil, World.ownsRow_nil _ _ _ _⟩, newAt_none _, (fun _ _ _ e => by cases e), Below.refl _ _⟩
  · have hnil := fun (w : World) => Lib.run_eql_slice_nil w (P := Tryd.prog) (t := 23) (e := 3) (some ad) l.length c 0 0 Tryd.underlying23
    have HR := hid hr
    clear hr
    go_enter Tryd.func29, Tryd.ntmps29
    go_wp2_with (at_builtin; refine wpList_append_row elem_int rfl _ _ rfl w.heap.size (.slice (some ⟨w.heap.size, 0, none⟩) 0 0) 0 [] rfl (World.ownsRow_made w #[] 0 (Nat.le_refl _) (by decide) rfl) (some ad) l.length c w.heap.size (icells' l) rfl ?_ (HR.out.below (Below.alloc (Below.refl _ _) (Nat.le_refl _) _) (Nat.le_refl _)) ?_ ?_ ?_ ?_ ?_; rotate_right; intro v1 w1 hown1 hg1 hat1; rotate_left; (simp); (intro u hu; obtain ⟨x, -, rfl⟩ := List.mem_map.1 hu; rfl); (simp only [maxLen]; omega); (omega); (simp))
    go_ret
    obtain ⟨A1, c1, rfl⟩ := own_formS hown1
    refine ⟨A1, c1, by simp, ?_, own_newS hown1 (Nat.le_refl _), own_inS hown1, ((Below.refl _ _).alloc (Nat.le_refl _) _).grown hg1 (by simp) (fun k hk => ?_)⟩
    · exact RowOwn.of_own (by simpa using hown1) rfl
    · simp [Value.ownBlock] at hk
      omega
end Go.Proofs.YtldlmkfigjicgaaDoor
/- zset.Sum: each row with its weight in all, in order. -/
namespace Go.Proofs.YtldlmkfigjicgaaDoor
set_option linter.unusedVariables false
set_option linter.unusedSimpArgs false
open Go.ChangeShapes Go.WideShapes Go.ChangeAt Go.RowKit Go.Shelf Go.Lib Go.Sort

/-- A list of items, and where it lies. -/
structure LR where
  L : List IR
  A : Option Addr
  k : Nat
abbrev LR.cells (x : LR) : List Value := [.slice x.A x.L.length x.k]
theorem LR.len (x : LR) : x.cells.length = 1 := rfl
abbrev lrs (LL : List LR) : List IR := LL.flatMap LR.L
theorem Row.lr {w : World} {B : Nat} {A : Option Addr} {LL : List LR} (h : Row w B A (LL.flatMap LR.cells)) {k : Nat} (hk : k < LL.length) :
    ∃ b off, A = some ⟨b, off, none⟩ ∧ b < B ∧ w.cell? ⟨b, off + k, none⟩ = some (.slice LL[k].A LL[k].L.length LL[k].k) := by
  obtain ⟨b, off, h1, h2, h3⟩ := Row.flat LR.len h (by omega) hk
  have := h3 0 _ rfl
  rw [Nat.mul_one, Nat.add_zero] at this
  exact ⟨b, off, h1, h2, this⟩
theorem lrs_take_len (LL : List LR) (j : Nat) : (lrs (LL.take j)).length ≤ (lrs LL).length := by
  have e : lrs LL = lrs (LL.take j) ++ lrs (LL.drop j) := by rw [lrs, lrs, lrs, ← List.flatMap_append, List.take_append_drop]
  rw [e, List.length_append]; omega

theorem grp_at {L : List IR} {i n : Nat} (h : i + n < L.length) : grpSum (its L) i (n + 1) = IntKind.i64.wrap (grpSum (its L) i n + L[i + n].n) := by
  rw [grpSum, List.getElem?_eq_getElem (by rw [its_len]; exact h), Option.map_some, Option.getD_some]
  simp [its]

set_option maxHeartbeats 8000000 in
set_option maxRecDepth 100000 in
theorem sum_any (LL : List LR) (A : Option Addr) (c : Nat) (w : World) (hr : Row w w.heap.size A (LL.flatMap LR.cells)) (hrows : ∀ x ∈ LL, RowI w w.heap.size x.A x.L) (hl : (lrs LL).length ≤ 4194304) (hll : LL.length ≤ 1048576) (hrl : ∀ x ∈ lrs LL, x.row.length ≤ 1048576) :
    Calls Tryd.prog 38 #[.slice A LL.length c] w (ItsPost (sumL (its (lrs LL))) w) := by
  have HR := hid hr
  have HRW := hid hrows
  have HRL := hid hrl
  clear hr hrows hrl
  have hs0 : w.heap.size ≤ w.heap.size := Nat.le_refl _
  obtain ⟨i0, z0, hi0, hz0, hz1, hz2, hz3⟩ := elem_item.hi
  go_enter Tryd.func38, Tryd.ntmps38
  go_wp2_with fail
  -- STOP-a
  go_loopw [3, 11] (fun s3 s11 wr => ∃ j : Nat, j ≤ LL.length ∧ s11 = .int .i64 j ∧ Hid (wr.ownsRow w.heap.size 51 2 s3 (lrs (LL.take j)).length (rcells (lrs (LL.take j)))) ∧ Hid (Below w.heap.size w wr)) (fun _ s11 _ => LL.length - (intOf s11).toNat)
  case atStart => exact ⟨0, by omega, rfl, hid (World.ownsRow_nil _ _ _ _), hid (Below.refl _ _)⟩
  case round =>
    obtain ⟨j, hj, rfl, HOWN, HB⟩ := hrel
    have hsz := HB.out.size
    by_cases hlt : j < LL.length
    · obtain ⟨b, off, rfl, hb, h0⟩ := (HR.out.below HB.out (Nat.le_refl _)).lr hlt
      have HST := hid (show lrs (LL.take (j + 1)) = lrs (LL.take j) ++ LL[j].L by rw [List.take_succ_eq_append_getElem hlt, lrs, List.flatMap_append]; simp)
      have HN := hid ((HRW.out _ (List.getElem_mem hlt)).1.below HB.out (Nat.le_refl _))
      have hl2 : (lrs (LL.take j)).length + LL[j].L.length ≤ 4194304 := by
        have := lrs_take_len LL (j + 1)
        rw [HST.out, List.length_append] at this
        omega
      obtain ⟨O, hO⟩ : ∃ O, O = lrs (LL.take j) := ⟨_, rfl⟩
      rw [← hO] at HOWN HST hl2
      clear hO
      generalize LL[j] = x at *
      obtain ⟨xl, xA, xk⟩ := x
      obtain ⟨A3, c3, rfl⟩ := own_formS HOWN.out
      have hb2 : b < wr.heap.size := by omega
      simp only at h0 HN hl2 HST
      go_wp2_with (at_builtin; refine wpList_append_row elem_item rfl _ _ rfl w.heap.size _ _ _ rfl HOWN.out xA xl.length xk w.heap.size (rcells xl) rfl (rcells_len xl) HN.out (rcells_one xl) ?_ ?_ ?_ ?_; rotate_right; intro v6 w6 hown6 hg6 hif6; rotate_left; (simp only [maxLen]; omega); (omega); (omega))
      go_roundw
      case rel =>
        refine ⟨j + 1, by omega, by go_num, ?_, hid (HB.out.grown hg6 hsz (fun g e => (HOWN.out.lt g e).1))⟩
        rw [HST.out, List.length_append, rcells, List.flatMap_append]
        exact hid hown6
      case measure => simp [intOf]; omega
    · have hJ : LL.take j = LL := List.take_of_length_le (by omega)
      rw [hJ] at HOWN
      obtain ⟨L, hL⟩ : ∃ L, L = lrs LL := ⟨_, rfl⟩
      rw [← hL] at HOWN hl HRL ⊢
      have HRA : Hid (RowsAt w w.heap.size L) := hid (fun x hx => by
        rw [hL] at hx
        obtain ⟨y, hy, hxy⟩ := List.mem_flatMap.1 hx
        exact (HRW.out y hy).2 x hxy)
      obtain ⟨A3, c3, rfl⟩ := own_formS HOWN.out
      have HRA2 := hid (HRA.out.below HB.out (Nat.le_refl _))
      have HLL := hid hL
      clear hL hJ HRW
      go_wp2_with fail
      -- STOP-b
      refine (zsortI_own L _ HOWN.out HRA2.out hsz (by omega)).mono ?_
      rintro e w2 ⟨rfl, L', hperm, hris, hown2, hg2⟩
      have HB2 := hid (HB.out.grown hg2 hsz (fun g e => (HOWN.out.lt g e).1))
      have HPM := hid hperm
      have HRS := hid hris
      have hln : L'.length = L.length := hperm.length_eq
      have HRX := hid (show Row w2 w2.heap.size A3 (rcells L') from Row.of_ownS hown2)
      have HRB : Hid (RowsAt w2 w2.heap.size L') := hid ((((HRA.out.sub fun x hx => hperm.mem_iff.1 hx).below HB2.out (Nat.le_refl _))).more HB2.out.size)
      have HRL2 : Hid (∀ x ∈ L', x.row.length ≤ 1048576) := hid (fun x hx => HRL.out x (hperm.mem_iff.1 hx))
      have HFIN : Hid (∀ S : List It, Summed (its L') (its L').length S → S = sumL (its L)) := hid (fun S h => summed_sumL (hperm.map IR.it) h)
      have HLN := hid hln
      have hs2 : w.heap.size ≤ w2.heap.size := HB2.out.size
      clear hperm hris hown2 hg2 HRA HRA2 HRL HB HOWN hln hsz hlt hj
      go_wp2_with fail
      -- STOP-c
      go_loopw [6, 7] (fun s6 s7 wr => ∃ (i : Nat) (S : List IR), i ≤ L.length ∧ s7 = .int .i64 i ∧ S.length ≤ i ∧ Hid (Summed (its L') i (its S)) ∧ Hid (wr.ownsRow w2.heap.size 51 2 s6 S.length (rcells S)) ∧ Hid (RowsNew wr w2.heap.size s6 S) ∧ Hid (Below w2.heap.size w2 wr)) (fun _ s7 _ => L.length - (intOf s7).toNat)
      case atStart => exact ⟨0, [], by omega, rfl, by simp, hid (summed_nil _), hid (World.ownsRow_nil _ _ _ _), hid (RowsNew.nil _ _ _), hid (Below.refl _ _)⟩
      case round =>
        obtain ⟨i, S, hi, rfl, hSi, HSM, HOWN, HNEW, HB⟩ := hrel
        obtain ⟨wo, rfl⟩ : ∃ wx : World, wx = wr := ⟨_, rfl⟩
        obtain ⟨A6, c6, rfl⟩ := own_formS HOWN.out
        have hs3 := HB.out.size
        by_cases hlt : i < L.length
        · have hlt' : i < L'.length := by have := HLN.out; omega
          have HRXo := hid (HRX.out.step HB.out)
          have HRBo := hid (HRB.out.step HB.out)
          obtain ⟨b, off, rfl, hb, h0, h1⟩ := HRXo.out.it hlt'
          have hbw : b < w2.heap.size := by
            obtain ⟨b2, off2, hA2, hb2, -⟩ := HRX.out.it hlt'
            injection hA2 with hA2
            injection hA2 with hA3
            omega
          have hmem := List.getElem_mem hlt'
          have HRO : Hid (∀ h : i < L'.length, L'[i] = L'[i]) := hid (fun _ => rfl)
          have HROW := hid (HRBo.out _ hmem).1
          have hrl2 := HRL2.out _ hmem
          have HEQ := hid (show ∀ j, (h : j < L'.length) → (its L')[j]'(by rw [its_len]; exact h) = L'[j].it from fun j h => by simp [its])
          obtain ⟨r, hr⟩ : ∃ r, r = L'[i].row := ⟨_, rfl⟩
          have HRR := hid hr
          rw [← hr] at h0 HROW hrl2
          clear hr hmem HRO
          generalize L'[i].A = rA at *
          generalize L'[i].k = rk at *
          generalize L'[i].n = rn at *
          have HCL := hid (cloneI_any r rA rk wo HROW.out hrl2)
          go_wp2_with fail
          -- STOP-d
          refine HCL.out.mono ?_
          rintro e w3 ⟨A5, c5, rfl, hrow5, hnew5, hin5, hb5⟩
          have HIN5 := hid hin5
          have HROW5 := hid hrow5
          have HNEW5 := hid hnew5
          have HB5 := hid hb5
          have hs5 := hb5.size
          clear hrow5 hnew5 hin5 hb5 h0 h1 hb HCL HROW
          go_wp2_with fail
          -- STOP-e
          go_loopw [7] (fun s7 wr => ∃ n : Nat, i + n ≤ L.length ∧ s7 = .int .i64 ((i + n : Nat) : Int) ∧ Hid (InGroup (its L') i (i + n) r) ∧ Hid (Blk wr w3.heap.size #[.slice A5 r.length c5, .int .i64 (grpSum (its L') i n)] 51) ∧ Hid (Below w3.heap.size w3 wr)) (fun s7 _ => L.length - (intOf s7).toNat)
          case atStart => exact ⟨0, by omega, by simp, hid (fun k hk h1 h2 => by omega), hid (Blk.new _ _ _), hid (alloc_below (Below.refl _ _) _)⟩
          case round =>
            obtain ⟨n, hn, rfl, HG, HXB, HB6⟩ := hrel
            obtain ⟨wi, rfl⟩ : ∃ wx : World, wx = wr := ⟨_, rfl⟩
            obtain ⟨j, hj⟩ : ∃ j, j = i + n := ⟨_, rfl⟩
            have HJ := hid hj
            rw [← hj] at hn HG ⊢
            clear hj
            have hs6 := HB6.out.size
            have HB7 := hid (Below.step' HB.out (Below.step' HB5.out HB6.out))
            have HROW6 := hid (HROW5.out.row.step HB6.out)
            have hxl := HXB.out.lt
            obtain ⟨okb, hok⟩ : ∃ okb : Bool, okb = (if h : j < L'.length then decide (cmpL L'[j].row r = 0) else false) := ⟨_, rfl⟩
            have HOK := hid hok
            clear hok
            go_upto_region 12 with fail
            go_cut [46] from 32 to 46 (fun s wx => s = .bool okb ∧ Hid (Below wi.heap.size wi wx))
            case first =>
              by_cases hlt2 : j < L.length
              · have hlt3 : j < L'.length := by have := HLN.out; omega
                obtain ⟨b', off', hA, hb', h0, h1⟩ := (HRX.out.step HB7.out).it hlt3
                injection hA with hA
                injection hA with hA1 hA2
                subst hA1 hA2
                have hokv : okb = decide (cmpL L'[j].row r = 0) := by rw [HOK.out, dif_pos hlt3]
                have hmem := List.getElem_mem hlt3
                have HORD := hid (fun w1 (hb : Below wi.heap.size wi w1) => orderL_any L'[j].row r L'[j].A A5 L'[j].k c5 w1 ((HRB.out.step HB7.out).step hb _ hmem).1 (HROW6.out.step hb) (Nat.le_trans (HRL2.out _ hmem) (by decide)) (by omega))
                obtain ⟨cv, hcv⟩ : ∃ cv, cv = cmpL L'[j].row r := ⟨_, rfl⟩
                rw [← hcv] at HORD hokv
                clear hmem hcv
                generalize L'[j].row = xr at *
                generalize L'[j].A = xA at *
                generalize L'[j].k = xk at *
                generalize L'[j].n = xn at *
                have HOV := hid hokv
                obtain ⟨cx, fx, sx, nx⟩ := HXB.out.all
                by_cases hz : cv = 0
                · have t1 : (cv == 0) = true := by simp [hz]
                  have HZ := hid hz
                  clear hokv hz
                  go_wp2
                  refine region_ext (by kernel_rfl) (by kernel_rfl) (fun hext => ?_)
                  repeat (any_goals ((with_reducible refine wpQuiet_step (fun K hK => ?_)); go_simp; first | (with_reducible refine hK _ ?_; clear hK K) | ((with_reducible apply Exists.intro); (with_reducible refine ⟨fun _ => ?_, hK _ ?_⟩); (go_at_call 50; exact ext_call_same _ (HORD.out _ (Ext.below _))); clear hK K) | ((with_reducible refine (if_neg ?_).mpr (hK _ ?_)); (decide); clear hK K) | (split <;> (with_reducible refine hK _ ?_; clear hK K))))
                  all_goals ((with_reducible refine wpQuiet_nil ?_); clear hext; intro w1 hx1; have hb1 := ext_below hx1; clear hx1)
                  go_wp2
                  all_goals
                    go_meet
                    case rel => exact ⟨by rw [HOV.out, decide_eq_true HZ.out], hid hb1⟩
                · have t1 : (cv == 0) = false := by simp [hz]
                  have HZ := hid hz
                  clear hokv hz
                  go_wp2
                  refine region_ext (by kernel_rfl) (by kernel_rfl) (fun hext => ?_)
                  repeat (any_goals ((with_reducible refine wpQuiet_step (fun K hK => ?_)); go_simp; first | (with_reducible refine hK _ ?_; clear hK K) | ((with_reducible apply Exists.intro); (with_reducible refine ⟨fun _ => ?_, hK _ ?_⟩); (go_at_call 50; exact ext_call_same _ (HORD.out _ (Ext.below _))); clear hK K) | ((with_reducible refine (if_neg ?_).mpr (hK _ ?_)); (decide); clear hK K) | (split <;> (with_reducible refine hK _ ?_; clear hK K))))
                  all_goals ((with_reducible refine wpQuiet_nil ?_); clear hext; intro w1 hx1; have hb1 := ext_below hx1; clear hx1)
                  go_wp2
                  all_goals
                    go_meet
                    case rel => exact ⟨by rw [HOV.out, decide_eq_false HZ.out], hid hb1⟩
              · have hlt3 : ¬ j < L'.length := by have := HLN.out; omega
                have HOV : Hid (okb = false) := hid (by rw [HOK.out, dif_neg hlt3])
                have hd : decide ((j : Int) < (L.length : Int)) = false := decide_eq_false (by omega)
                go_wp2
                refine region_ext (by kernel_rfl) (by kernel_rfl) (fun hext => ?_)
                repeat (any_goals ((with_reducible refine wpQuiet_step (fun K hK => ?_)); go_simp; first | (with_reducible refine hK _ ?_; clear hK K) | ((with_reducible apply Exists.intro); (with_reducible refine ⟨fun _ => ?_, hK _ ?_⟩); (fail); clear hK K) | ((with_reducible refine (if_neg ?_).mpr (hK _ ?_)); (decide); clear hK K) | (split <;> (with_reducible refine hK _ ?_; clear hK K))))
                all_goals ((with_reducible refine wpQuiet_nil ?_); clear hext; intro w1 hx1; have hb1 := ext_below hx1; clear hx1)
                go_wp2
                all_goals
                  go_meet
                  case rel => exact ⟨by rw [HOV.out], hid hb1⟩
            case rest =>
              obtain ⟨rfl, HB8⟩ := hcut
              obtain ⟨wj, rfl⟩ : ∃ wx : World, wx = wc := ⟨_, rfl⟩
              have HXB8 := hid (HXB.out.step HB8.out)
              have HB9 := hid (HB6.out.trans (HB8.out.mono hs6))
              have HB10 := hid (Below.step' HB7.out HB8.out)
              have hs8 := HB8.out.size
              clear HXB HB7 HROW6
              cases okb
              · have hn0 : 0 < n := by
                  rcases Nat.eq_zero_or_pos n with h | h
                  · exfalso
                    have hji : j = i := by have := HJ.out; omega
                    have := HOK.out
                    rw [dif_pos (show j < L'.length by omega)] at this
                    simp only [hji] at this
                    rw [← HRR.out, cmpL_self] at this
                    simp at this
                  · exact h
                have hlenj : i + n ≤ (its L').length := by rw [its_len, HLN.out, ← HJ.out]; exact hn
                have hout : ∀ h : i + n < (its L').length, (its L')[i + n].1 ≠ r := fun h e => by
                  have h2 : j < L'.length := by rw [its_len] at h; rw [HJ.out]; exact h
                  have := HOK.out
                  rw [dif_pos h2] at this
                  have e2 := HEQ.out (i + n) (by rw [its_len] at h; exact h)
                  rw [e2] at e
                  simp only [IR.it] at e
                  simp only [HJ.out, e, cmpL_self] at this
                  simp at this
                have hgrp := HG.out
                rw [HJ.out] at hgrp
                have HSS := hid (summed_step (fun a b ha hb hab => HRS.out a b ha hb hab) HSM.out hn0 hlenj r hgrp hout)
                clear hlenj hout hgrp HOK
                obtain ⟨gs, hgs⟩ : ∃ gs, gs = grpSum (its L') i n := ⟨_, rfl⟩
                rw [← hgs] at HXB8 HSS
                clear hgs
                obtain ⟨cx, fx, sx, nx⟩ := HXB8.out.all
                have HOWN8 := hid (own_laterS HOWN.out (Below.step' HB5.out (Below.trans HB6.out (HB8.out.mono hs6))))
                have HNEW8 := hid (HNEW.out.step (Below.step' HB5.out (Below.trans HB6.out (HB8.out.mono hs6))))
                have HROW8 := hid (HROW5.out.step (Below.trans HB6.out (HB8.out.mono hs6)))
                by_cases hz : gs = 0
                · have t1 : (gs != 0) = false := by simp [hz]
                  have HZ := hid hz
                  clear hz
                  go_wp2_with fail
                  go_roundw
                  case rel =>
                    refine ⟨j, S, hn, rfl, by have := HJ.out; omega, ?_, HOWN8, HNEW8, HB10⟩
                    have := HSS.out
                    rw [if_pos HZ.out, ← HJ.out] at this
                    exact hid this
                  case measure => have := HJ.out; simp [intOf]; omega
                · have t1 : (gs != 0) = true := by simp [hz]
                  have HZ := hid hz
                  clear hz
                  have hj2 := HJ.out
                  have hjn : i < j := by omega
                  clear hj2
                  go_wp2_with (at_builtin; refine wpList_append_row elem_item rfl _ _ rfl w2.heap.size _ _ _ rfl (HOWN8.out.alloc _) (some ⟨wj.heap.size, 0, none⟩) 1 1 (wj.heap.size + 1) [.slice A5 r.length c5, .int .i64 gs] rfl rfl (Row.new' _ _ _ rfl rfl (Nat.lt_succ_self _)) (rcells_one [⟨r, A5, c5, gs⟩]) ?_ ?_ ?_ ?_; rotate_right; intro v7 w7 hown7 hg7 hif7; rotate_left; (simp only [maxLen]; omega); (omega); (simp; omega))
                  -- STOP-f
                  have HNEW9 := hid ((HNEW8.out.step (alloc_below (Below.refl _ _) (.cells #[.slice A5 r.length c5, .int .i64 gs] 51))).grown hg7 hif7)
                  have HROW9 := hid ((HROW8.out.step (alloc_below (Below.refl _ _) (.cells #[.slice A5 r.length c5, .int .i64 gs] 51))))
                  have hA5 : ∀ b off q, A5 = some ⟨b, off, q⟩ → some b ≠ (Value.slice A6 S.length c6).ownBlock := fun b off q e e2 => by
                    have q1 := HNEW5.out b off q e
                    have q2 := (HOWN.out.lt b e2.symm).2
                    omega
                  have HA5 := hid hA5
                  have HIF := hid hif7
                  have HG7 := hid hg7
                  have HOWN9 := hid hown7
                  clear hown7 hg7 hif7 hA5
                  go_roundw
                  case rel =>
                    have HB11 := (HB10.out.alloc (by omega) (.cells #[.slice A5 r.length c5, .int .i64 gs] 51)).grown HG7.out (by simp; omega) (fun g e => (HOWN8.out.lt g e).1)
                    have hsum : Summed (its L') j (its (S ++ [⟨r, A5, c5, gs⟩])) := by
                      have := HSS.out
                      rw [if_neg HZ.out, ← HJ.out] at this
                      show Summed (its L') j ((S ++ [(⟨r, A5, c5, gs⟩ : IR)]).map IR.it)
                      rw [List.map_append]
                      exact this
                    have hr9 := (HROW9.out.grown_ne (Nat.le_refl _) HG7.out HA5.out).more HG7.out.size
                    refine ⟨j, S ++ [⟨r, A5, c5, gs⟩], hn, rfl, by simp; omega, hid hsum, ?_, hid ?_, hid HB11⟩
                    · rw [rcells_snoc, List.length_append]
                      exact HOWN9
                    · refine RowsNew.snoc HNEW9.out (x := (⟨r, A5, c5, gs⟩ : IR)) hr9 (newAt_le HNEW5.out hs3) (fun b off q e => ?_) hrl2
                      have hlt9 := HIN5.out b off q e
                      have hsz7 := HG7.out.size
                      simp at hsz7
                      refine ⟨?_, by omega⟩
                      rcases HIF.out with h | h
                      · rw [h]; exact HA5.out b off q e
                      · rw [h]; intro e2; injection e2 with e2; simp at e2; omega
                  case measure => have := HJ.out; simp [intOf]; omega
              · have hlt3 : j < L'.length := by
                  rcases Nat.lt_or_ge j L'.length with h | h
                  · exact h
                  · have := HOK.out; rw [dif_neg (by omega)] at this; cases this
                have hlt2 : j < L.length := by have := HLN.out; omega
                have hrow : L'[j].row = r := by
                  have := HOK.out
                  rw [dif_pos hlt3] at this
                  exact cmpL_eq _ _ (by simpa using this.symm)
                obtain ⟨b', off', hA, hb', h0, h1⟩ := (HRX.out.step HB10.out).it hlt3
                injection hA with hA
                injection hA with hA1 hA2
                subst hA1 hA2
                have HGR : Hid (InGroup (its L') i (j + 1) r) := hid (fun k hk h1 h2 => by
                  by_cases e : k = j
                  · subst e; rw [HEQ.out k hlt3]; exact hrow
                  · exact HG.out k hk h1 (by omega))
                have HGA : Hid (grpSum (its L') i (n + 1) = IntKind.i64.wrap (grpSum (its L') i n + L'[j].n)) := hid (by
                  have := HJ.out
                  subst this
                  exact grp_at hlt3)
                clear hrow HOK
                obtain ⟨gs, hgs⟩ : ∃ gs, gs = grpSum (its L') i n := ⟨_, rfl⟩
                rw [← hgs] at HXB8 HGA
                clear hgs
                generalize L'[j].row = xr at *
                generalize L'[j].A = xA at *
                generalize L'[j].k = xk at *
                generalize L'[j].n = xn at *
                obtain ⟨cx, fx, sx, nx⟩ := HXB8.out.all
                have hne : (w3.heap.size = b) = False := by simp; omega
                have hne' : (b = w3.heap.size) = False := by simp; omega
                have hb3 : b < wj.heap.size := by omega
                go_wp2_with fail
                -- STOP-g
                go_big_region
                go_wp2
                go_roundw
                case rel =>
                  refine ⟨n + 1, by have := HJ.out; omega, by have := HJ.out; go_num, hid (by have := HGR.out; rwa [HJ.out] at this), hid ?_, hid (HB9.out.setCell (p := ⟨w3.heap.size, 1, none⟩) (Nat.le_refl _) _).drew⟩
                  rw [HGA.out, IntWalk.i64_left]
                  exact (HXB8.out.set 1 _).drew
                case measure => have := HJ.out; simp [intOf]; omega
        · have hli : i = (its L').length := by rw [its_len, HLN.out]; omega
          have HF := hid (HFIN.out (its S) (by rw [← hli]; exact HSM.out))
          clear hli
          go_wp2
          go_ret
          exact ⟨A6, c6, S, rfl, by rw [← HLL.out]; exact HF.out, own_baseS HOWN.out hs2, fun x hx => by
            obtain ⟨q1, q2, q3, q4⟩ := HNEW.out x hx
            exact ⟨q1, newAt_le q2 hs2, q3, q4⟩, HB2.out.trans (HB.out.mono hs2)⟩
end Go.Proofs.YtldlmkfigjicgaaDoor
/- slices.IndexFunc, ContainsFunc at Item; zset.Done. -/
namespace Go.Proofs.YtldlmkfigjicgaaDoor
set_option linter.unusedVariables false
set_option linter.unusedSimpArgs false
open Go.ChangeShapes Go.WideShapes Go.ChangeAt Go.RowKit
/-- What is asked of a function value: handed an element of the list, in whatever later world, it answers p, and leaves what was there. -/
def PredIt (g : Nat) (caps : Array Value) (p : IR → Bool) (L : List IR) (w : World) : Prop :=
  ∀ w', Below w.heap.size w w' → ∀ x ∈ L, Calls Tryd.prog g (#[.agg x.cells.toArray] ++ caps) w' fun e w'' => e = .returned (.bool (p x)) ∧ Below w'.heap.size w' w''
set_option maxHeartbeats 400000 in
set_option maxRecDepth 100000 in
theorem indexIt_any (g : Nat) (caps : Array Value) (p : IR → Bool) (L : List IR) (A : Option Addr) (c : Nat) (w : World) (hr : Row w w.heap.size A (rcells L)) (hl : L.length ≤ 9223372036854775807)
    (eg : ∀ args w, (callFunc g args).run Tryd.prog w = .ok (.enter g args) w) (hp : PredIt g caps p L w) :
    Calls Tryd.prog 52 #[.slice A L.length c, .func (.func g) #[] caps] w (FoundAt (L.any p = true) w) := by
  have HR := hid hr
  clear hr
  go_enter Tryd.func52, Tryd.ntmps52
  go_wp2
  go_loopw [8] (fun i wr => (∃ k : Nat, k ≤ L.length ∧ i = .int .i64 k ∧ ∀ j (h : j < L.length), j < k → p L[j] = false) ∧ Below w.heap.size w wr) (fun i _ => L.length - (intOf i).toNat)
  case atStart => exact ⟨⟨0, by omega, rfl, fun j _ h => absurd h (by omega)⟩, Below.refl _ _⟩
  case round =>
    obtain ⟨⟨k, hk, rfl, hno⟩, hbw⟩ := hrel
    by_cases hlt : k < L.length
    · obtain ⟨b, off, rfl, hb, h0, h1⟩ := (HR.out.below hbw (Nat.le_refl _)).it hlt
      have hc := hp wr hbw L[k] (List.getElem_mem _)
      have HN := hid hno
      have HB := hid hbw
      have HC := hid hc
      clear hno hbw hc
      generalize hd : L[k] = d at *
      obtain ⟨xr, xA, xk, xn⟩ := d
      have HD := hid hd
      clear hd
      (try simp only [IR.cells] at h0 h1 HC)
      obtain ⟨pd, hpd⟩ : ∃ b, b = p ⟨xr, xA, xk, xn⟩ := ⟨_, rfl⟩
      rw [← hpd] at HC
      have HP := hid hpd
      clear hpd
      cases pd
      all_goals
        go_wp2_with (refine (HC.out).mono ?_; rintro e w1 ⟨rfl, hb1⟩)
      · go_roundw
        case rel =>
          refine ⟨⟨k + 1, by omega, by go_num, fun j h hj => ?_⟩, HB.out.trans (hb1.mono HB.out.size)⟩
          by_cases e : j = k
          · subst e; rw [HD.out]; exact HP.out.symm
          · exact HN.out j h (by omega)
        case measure => simp [intOf]; omega
      · go_ret
        refine ⟨k, rfl, iff_of_true (by omega) (List.any_eq_true.2 ⟨L[k], List.getElem_mem _, by rw [HD.out]; exact HP.out.symm⟩), HB.out.trans (hb1.mono HB.out.size)⟩
    · go_wp2
      go_ret
      refine ⟨-1, rfl, iff_of_false (by omega) ?_, hbw⟩
      intro hm
      obtain ⟨d, hd, e⟩ := List.any_eq_true.1 hm
      obtain ⟨j, hj, rfl⟩ := List.getElem_of_mem hd
      rw [hno j hj (by omega)] at e
      cases e
theorem containsIt_any (g : Nat) (caps : Array Value) (p : IR → Bool) (L : List IR) (A : Option Addr) (c : Nat) (w : World) (hr : Row w w.heap.size A (rcells L)) (hl : L.length ≤ 9223372036854775807)
    (eg : ∀ args w, (callFunc g args).run Tryd.prog w = .ok (.enter g args) w) (hp : PredIt g caps p L w) :
    Calls Tryd.prog 22 #[.slice A L.length c, .func (.func g) #[] caps] w fun e w' => e = .returned (.bool (L.any p)) ∧ Below w.heap.size w w' := by
  have H := indexIt_any g caps p L A c w hr hl eg hp
  have HR := hid hr
  have HP := hid hp
  clear hr eg hp
  go_enter Tryd.func22, Tryd.ntmps22
  go_wp2_with (go_at_call 52; refine H.mono ?_; rintro e w' ⟨i, rfl, hi, hb⟩)
  go_ret
  refine ⟨ret_bool ?_, hb⟩
  first
    | (rw [Bool.eq_iff_iff, decide_eq_true_eq]; exact hi)
    | (rw [Bool.eq_iff_iff, decide_eq_true_eq, List.any_eq_true])

set_option maxHeartbeats 400000 in
set_option maxRecDepth 100000 in
theorem done1_any (x : IR) (w : World) (hr : Row w w.heap.size x.A (icells' x.row)) (hl : x.row.length ≤ 9223372036854775807) :
    Calls Tryd.prog 63 #[.agg x.cells.toArray] w fun e w' => e = .returned (.bool (badB x.it)) ∧ Below w.heap.size w w' := by
  obtain ⟨xr, xA, xk, xn⟩ := x
  simp only [IR.cells, IR.it] at hr hl ⊢
  have HC := hid (fun w1 (hb : Below w.heap.size w w1) => row_any xr xA xk w1 (hr.step hb) hl)
  have HF := hid (fun w1 => far_any xn w1)
  clear hr
  have HX := hid (show badB (xr, xn) = (!rowB xr || farB xn) from rfl)
  obtain ⟨R, hR⟩ : ∃ R, R = badB (xr, xn) := ⟨_, rfl⟩
  rw [← hR] at HX ⊢
  clear hR
  obtain ⟨rb, hrb⟩ : ∃ b, b = rowB xr := ⟨_, rfl⟩
  rw [← hrb] at HC HX
  clear hrb
  obtain ⟨fb, hfb⟩ : ∃ b, b = farB xn := ⟨_, rfl⟩
  rw [← hfb] at HF HX
  clear hfb
  cases rb
  all_goals
    go_enter Tryd.func63, Tryd.ntmps63
    go_wp2_with fail
    refine (HC.out _ (by (repeat' (first | (with_reducible exact Below.refl _ _) | (with_reducible assumption) | (with_reducible refine below_drewN ?_ _) | (with_reducible refine Below.drew ?_) | (with_reducible refine Below.alloc ?_ ?_ _) | (with_reducible refine Below.setCell ?_ ?_ _) | (refine Below.trans ?_ (Below.mono (by assumption) ?_)) | go_size)))).mono ?_
    rintro e w1 ⟨rfl, hb1⟩
    have hB1 : Below w.heap.size w w1 := (by refine Below.step' ?_ hb1; (repeat' (first | (with_reducible exact Below.refl _ _) | (with_reducible assumption) | (with_reducible refine below_drewN ?_ _) | (with_reducible refine Below.drew ?_) | (with_reducible refine Below.alloc ?_ ?_ _) | (with_reducible refine Below.setCell ?_ ?_ _) | (refine Below.trans ?_ (Below.mono (by assumption) ?_)) | go_size)))
    have HX1 := hid (Blk.step (Blk.new w #[.slice xA xr.length xk, .int .i64 xn] 51) hb1)
    clear hb1
    obtain ⟨cx, fx, sx, nx⟩ := HX1.out.all
    go_wp2_with (go_at_call 49; refine (HF.out _).mono ?_; rintro e w' ⟨rfl, rfl⟩)
    go_ret
    exact ⟨ret_bool (by rw [HX.out]; rfl), hB1⟩
theorem enters_done1 : ∀ args w, (callFunc 63 args).run Tryd.prog w = .ok (.enter 63 args) w := enters_of Tryd.func63 (by kernel_rfl) rfl

theorem any_its (M : List IR) : M.any (fun x => badB x.it) = (its M).any badB := by rw [its, List.any_map]; rfl

def DonePost (D : Int) (v : Value) (w : World) (e : Ending) (w' : World) : Prop := e = .returned (.tuple #[if D = 0 then v else .slice none 0 0, .int .i64 D]) ∧ Below w.heap.size w w'
set_option maxHeartbeats 400000 in
set_option maxRecDepth 100000 in
theorem done_any (M : List IR) (A : Option Addr) (k : Nat) (w : World) (hr : Row w w.heap.size A (rcells M)) (hrow : RowsAt w w.heap.size M) (hl : M.length ≤ 9223372036854775807) :
    Calls Tryd.prog 37 #[.slice A M.length k] w (DonePost (doneE (its M)) (.slice A M.length k) w) := by
  have HC := hid (containsIt_any 63 #[] (fun x => badB x.it) M A k w hr hl enters_done1 (fun w' hb x hx => done1_any x w' ((hrow.step hb) x hx).1 (hrow x hx).2))
  clear hr hrow
  have HE := hid (show doneE (its M) = if (its M).any badB = true then 5 else if 400 < (its M).length then 2 else 0 from rfl)
  rw [any_its] at HC
  rw [its_len] at HE
  obtain ⟨D, hD⟩ : ∃ D, D = doneE (its M) := ⟨_, rfl⟩
  rw [← hD] at HE ⊢
  clear hD
  obtain ⟨B, hB⟩ : ∃ B, B = (its M).any badB := ⟨_, rfl⟩
  rw [← hB] at HC HE
  clear hB
  cases B
  · by_cases h4 : 400 < M.length
    · have h4' : (400 : Int) < (M.length : Int) := by omega
      have HD : Hid (D = 2) := hid (by rw [HE.out, if_neg (by simp), if_pos h4])
      go_enter Tryd.func37, Tryd.ntmps37
      go_wp2_with (go_at_call 22; refine HC.out.mono ?_; rintro e w' ⟨rfl, hb⟩)
      go_ret2
      exact ⟨by rw [HD.out, if_neg (by decide)]; rfl, hb⟩
    · have h4' : (M.length : Int) ≤ 400 := by omega
      have HD : Hid (D = 0) := hid (by rw [HE.out, if_neg (by simp), if_neg h4])
      go_enter Tryd.func37, Tryd.ntmps37
      go_wp2_with (go_at_call 22; refine HC.out.mono ?_; rintro e w' ⟨rfl, hb⟩)
      go_ret2
      exact ⟨by rw [HD.out, if_pos rfl]; rfl, hb⟩
  · have HD : Hid (D = 5) := hid (by rw [HE.out, if_pos rfl])
    go_enter Tryd.func37, Tryd.ntmps37
    go_wp2_with (go_at_call 22; refine HC.out.mono ?_; rintro e w' ⟨rfl, hb⟩)
    go_ret2
    exact ⟨by rw [HD.out, if_neg (by decide)]; rfl, hb⟩
end Go.Proofs.YtldlmkfigjicgaaDoor
/- rank's closures, rank.width, the order of rows. -/
namespace Go.Proofs.YtldlmkfigjicgaaDoor
set_option linter.unusedVariables false
set_option linter.unusedSimpArgs false
open Go.ChangeShapes Go.WideShapes Go.ChangeAt Go.RowKit Go.Shelf Go.Lib Go.Sort

/-- A variable that a closure has caught. -/
def Caught (w : World) (a : Addr) (v : Value) : Prop := w.cell? a = some v ∧ a.block < w.heap.size
theorem Caught.step {w w' : World} {b off : Nat} {v : Value} (h : Caught w ⟨b, off, none⟩ v) (hb : Below w.heap.size w w') : Caught w' ⟨b, off, none⟩ v := ⟨((bcell hb).1 b off h.2).trans h.1, Nat.lt_of_lt_of_le h.2 hb.size⟩

theorem width1_any (x : IR) (n : Int) (b : Nat) (w : World) (hc : Caught w ⟨b, 0, none⟩ (.int .i64 n)) :
    Calls Tryd.prog 51 #[.agg x.cells.toArray, .pointer (some ⟨b, 0, none⟩)] w fun e w' => e = .returned (.bool (decide ((x.row.length : Int) ≠ n))) ∧ Below w.heap.size w w' := by
  obtain ⟨xr, xA, xk, xn⟩ := x
  obtain ⟨h0, hlt⟩ := hc
  simp only at hlt
  have hne : (b = w.heap.size) = False := by simp; omega
  simp only [IR.cells]
  go_enter Tryd.func51, Tryd.ntmps51
  go_wp2
  go_ret
  refine ⟨ret_bool ?_, by (repeat' (first | (with_reducible exact Below.refl _ _) | (with_reducible assumption) | (with_reducible refine below_drewN ?_ _) | (with_reducible refine Below.drew ?_) | (with_reducible refine Below.alloc ?_ ?_ _) | (with_reducible refine Below.setCell ?_ ?_ _) | (refine Below.trans ?_ (Below.mono (by assumption) ?_)) | go_size))⟩
  by_cases q : (xr.length : Int) = n <;> simp [q]
theorem enters_width1 : ∀ args w, (callFunc 51 args).run Tryd.prog w = .ok (.enter 51 args) w := enters_of Tryd.func51 (by kernel_rfl) rfl

theorem many1_any (x : IR) (w : World) :
    Calls Tryd.prog 23 #[.agg x.cells.toArray] w fun e w' => e = .returned (.bool (manyB x.it)) ∧ Below w.heap.size w w' := by
  obtain ⟨xr, xA, xk, xn⟩ := x
  simp only [IR.cells, IR.it]
  obtain ⟨R, hR⟩ : ∃ R, R = manyB (xr, xn) := ⟨_, rfl⟩
  rw [← hR]
  have HR := hid hR
  clear hR
  by_cases h1 : xn < 0
  · go_enter Tryd.func23, Tryd.ntmps23
    go_wp2
    go_ret
    exact ⟨ret_bool (by rw [HR.out]; unfold manyB; rw [decide_eq_true h1]; rfl), by (repeat' (first | (with_reducible exact Below.refl _ _) | (with_reducible assumption) | (with_reducible refine below_drewN ?_ _) | (with_reducible refine Below.drew ?_) | (with_reducible refine Below.alloc ?_ ?_ _) | (with_reducible refine Below.setCell ?_ ?_ _) | (refine Below.trans ?_ (Below.mono (by assumption) ?_)) | go_size))⟩
  · by_cases h2 : 400 < xn
    · go_enter Tryd.func23, Tryd.ntmps23
      go_wp2
      go_ret
      exact ⟨ret_bool (by rw [HR.out]; unfold manyB; rw [decide_eq_true h2]; simp), by (repeat' (first | (with_reducible exact Below.refl _ _) | (with_reducible assumption) | (with_reducible refine below_drewN ?_ _) | (with_reducible refine Below.drew ?_) | (with_reducible refine Below.alloc ?_ ?_ _) | (with_reducible refine Below.setCell ?_ ?_ _) | (refine Below.trans ?_ (Below.mono (by assumption) ?_)) | go_size))⟩
    · go_enter Tryd.func23, Tryd.ntmps23
      go_wp2
      go_ret
      exact ⟨ret_bool (by rw [HR.out]; unfold manyB; rw [decide_eq_false (by omega), decide_eq_false (by omega)]; rfl), by (repeat' (first | (with_reducible exact Below.refl _ _) | (with_reducible assumption) | (with_reducible refine below_drewN ?_ _) | (with_reducible refine Below.drew ?_) | (with_reducible refine Below.alloc ?_ ?_ _) | (with_reducible refine Below.setCell ?_ ?_ _) | (refine Below.trans ?_ (Below.mono (by assumption) ?_)) | go_size))⟩
theorem enters_many1 : ∀ args w, (callFunc 23 args).run Tryd.prog w = .ok (.enter 23 args) w := enters_of Tryd.func23 (by kernel_rfl) rfl

theorem wrong1_any (k n : Int) (hn : 0 ≤ n ∧ n ≤ 9223372036854775807) (b : Nat) (w : World) (hc : Caught w ⟨b, 0, none⟩ (.int .i64 n)) :
    Calls Tryd.prog 24 #[.int .i64 k, .pointer (some ⟨b, 0, none⟩)] w fun e w' => e = .returned (.bool (wrongB n k)) ∧ w = w' := by
  obtain ⟨h0, hlt⟩ := hc
  obtain ⟨R, hR⟩ : ∃ R, R = wrongB n k := ⟨_, rfl⟩
  rw [← hR]
  have HR := hid hR
  clear hR
  have hw : IntKind.i64.wrap (-n) = -n := IntWalk.i64_in _ (by omega)
  have hw2 : IntKind.i64.wrap (0 - n) = -n := by rw [Int.zero_sub]; exact hw
  by_cases h1 : k = 0
  · go_enter Tryd.func24, Tryd.ntmps24
    go_wp2
    go_ret
    exact ⟨ret_bool (by rw [HR.out]; unfold wrongB; rw [decide_eq_true h1]; rfl), rfl⟩
  · by_cases h2 : k < -n
    · go_enter Tryd.func24, Tryd.ntmps24
      go_wp2
      go_ret
      exact ⟨ret_bool (by rw [HR.out]; unfold wrongB; rw [decide_eq_true h2]; simp), rfl⟩
    · by_cases h3 : n < k
      · go_enter Tryd.func24, Tryd.ntmps24
        go_wp2
        go_ret
        exact ⟨ret_bool (by rw [HR.out]; unfold wrongB; rw [decide_eq_true h3]; simp), rfl⟩
      · go_enter Tryd.func24, Tryd.ntmps24
        go_wp2
        go_ret
        exact ⟨ret_bool (by rw [HR.out]; unfold wrongB; rw [decide_eq_false (show ¬ k = 0 by omega), decide_eq_false (show ¬ k < -n by omega), decide_eq_false (show ¬ n < k by omega)]; simp [h1]), rfl⟩
theorem enters_wrong1 : ∀ args w, (callFunc 24 args).run Tryd.prog w = .ok (.enter 24 args) w := enters_of Tryd.func24 (by kernel_rfl) rfl

set_option maxHeartbeats 400000 in
set_option maxRecDepth 100000 in
theorem width_any (M : List IR) (A : Option Addr) (c : Nat) (w : World) (hr : RowI w w.heap.size A M) (hl : M.length ≤ 9223372036854775807) :
    Calls Tryd.prog 21 #[.slice A M.length c] w fun e w' => e = .returned (.int .i64 (widI (its M))) ∧ Below w.heap.size w w' := by
  have HR := hid hr
  obtain ⟨R, hR⟩ : ∃ R, R = widI (its M) := ⟨_, rfl⟩
  rw [← hR]
  have HX := hid hR
  clear hr hR
  by_cases h0 : M.length = 0
  · have t0 : ((M.length : Int) == 0) = true := by rw [h0]; rfl
    go_enter Tryd.func21, Tryd.ntmps21
    go_wp2
    go_ret
    refine ⟨ret_int ?_, Below.refl _ _⟩
    rw [HX.out, List.eq_nil_of_length_eq_zero h0]; rfl
  · have t0 : ((M.length : Int) == 0) = false := by simp; exact List.ne_nil_of_length_pos (by omega)
    obtain ⟨b, off, rfl, hb, e0, e1⟩ := HR.out.1.it (show 0 < M.length by omega)
    simp only [Nat.zero_mul, Nat.add_zero] at e0
    have hlt0 : (0 : Int) < (M.length : Int) := by omega
    have HL : Hid (R = if M.any (fun x => decide ((x.row.length : Int) ≠ (M[0].row.length : Int))) = true then -1 else (M[0].row.length : Int)) := hid (by
      rw [HX.out]
      cases M with
      | nil => simp at h0
      | cons y M =>
        show (if ((y :: M).map IR.it).any (fun z => decide (z.1.length ≠ y.row.length)) = true then -1 else (y.row.length : Int)) = _
        rw [List.any_map]
        have e : ((fun z : It => decide (z.1.length ≠ y.row.length)) ∘ IR.it) = fun x : IR => decide ((x.row.length : Int) ≠ (y.row.length : Int)) := by
          funext x
          simp only [Function.comp, IR.it]
          by_cases q : x.row.length = y.row.length
          · rw [decide_eq_false (show ¬ x.row.length ≠ y.row.length by omega), decide_eq_false (show ¬ (x.row.length : Int) ≠ (y.row.length : Int) by omega)]
          · rw [decide_eq_true (show x.row.length ≠ y.row.length by omega), decide_eq_true (show (x.row.length : Int) ≠ (y.row.length : Int) by omega)]
        rw [e]; rfl)
    generalize M[0].row.length = n at *
    have HCT : Hid (∀ w1, Below w.heap.size w w1 → Caught w1 ⟨w.heap.size, 0, none⟩ (.int .i64 n) → Calls Tryd.prog 22 #[.slice (some ⟨b, off, none⟩) M.length c, .func (.func 51) #[] #[.pointer (some ⟨w.heap.size, 0, none⟩)]] w1 fun e w' => e = .returned (.bool (M.any (fun x => decide ((x.row.length : Int) ≠ (n : Int))))) ∧ Below w1.heap.size w1 w') := hid (fun w1 hb hc =>
      containsIt_any 51 #[.pointer (some ⟨w.heap.size, 0, none⟩)] _ M _ c w1 (HR.out.1.step hb) hl enters_width1 (fun w' hb' x hx => width1_any x n w.heap.size w' (hc.step hb')))
    obtain ⟨AN, hAN⟩ : ∃ q, q = M.any (fun x => decide ((x.row.length : Int) ≠ (n : Int))) := ⟨_, rfl⟩
    rw [← hAN] at HCT HL
    clear hAN HX
    go_enter Tryd.func21, Tryd.ntmps21
    go_wp2_with fail
    -- STOP-a
    refine (HCT.out _ (by exact (Below.refl _ _).alloc (Nat.le_refl _) _) (by exact ⟨by simp, by simp⟩)).mono ?_
    rintro e w2 ⟨rfl, hb2⟩
    have hX2 : Blk w2 w.heap.size #[.int .i64 n] 3 := (Blk.new w #[.int .i64 n] 3).step hb2
    have hB2 : Below w.heap.size w w2 := (by refine Below.step' ?_ hb2; (repeat' (first | (with_reducible exact Below.refl _ _) | (with_reducible assumption) | (with_reducible refine below_drewN ?_ _) | (with_reducible refine Below.drew ?_) | (with_reducible refine Below.alloc ?_ ?_ _) | (with_reducible refine Below.setCell ?_ ?_ _) | (refine Below.trans ?_ (Below.mono (by assumption) ?_)) | go_size)))
    have HXA := hid hX2
    have HB := hid hB2
    clear hX2 hb2 hB2
    obtain ⟨cHXA, fHXA, sHXA, nHXA⟩ := HXA.out.all
    try simp only [cbox] at cHXA
    cases AN
    · go_wp2_with fail
      go_ret
      exact ⟨ret_int (by rw [HL.out]; rfl), HB.out⟩
    · go_wp2_with fail
      go_ret
      exact ⟨ret_int (by rw [HL.out]; rfl), HB.out⟩
end Go.Proofs.YtldlmkfigjicgaaDoor
/- Sets with weights: what is linear in them. No program in sight. -/
namespace Go.Proofs.YtldlmkfigjicgaaDoor
set_option linter.unusedVariables false
set_option linter.unusedSimpArgs false

abbrev M64 : Int := 18446744073709551616
theorem wrp_dvd {a b : Int} : wrp a = wrp b ↔ M64 ∣ a - b := by
  simp only [wrp, IntKind.wrap_i64, M64]
  omega
/-- A number of each row, times its weight, in all. -/
def totF (f : List Int → Int) : List It → Int
  | [] => 0
  | x :: l => f x.1 * x.2 + totF f l
theorem totF_app (f : List Int → Int) : ∀ a b, totF f (a ++ b) = totF f a + totF f b
  | [], b => by simp [totF]
  | x :: a, b => by rw [List.cons_append, totF, totF, totF_app f a b]; omega
theorem totF_neg (f : List Int → Int) : ∀ a : List It, totF f (a.map (fun x => (x.1, -x.2))) = - totF f a
  | [] => rfl
  | x :: a => by
    rw [List.map_cons, totF, totF, totF_neg f a]
    simp only [Int.mul_neg]
    omega
theorem tot_neg' (r : List Int) : ∀ a : List It, tot r (a.map (fun x => (x.1, -x.2))) = - tot r a
  | [] => rfl
  | x :: a => by
    rw [List.map_cons, tot, tot, tot_neg' r a]
    split <;> omega
theorem totF_one (r : List Int) : ∀ a : List It, totF (fun q => if q = r then 1 else 0) a = tot r a
  | [] => rfl
  | x :: a => by
    rw [totF, tot, totF_one r a]
    split <;> simp
theorem totF_split (f : List Int → Int) (r : List Int) : ∀ l : List It, totF f l = f r * tot r l + totF f (l.filter (fun y => decide (y.1 ≠ r)))
  | [] => by simp [totF, tot]
  | x :: l => by
    rw [totF, tot, totF_split f r l]
    by_cases h : x.1 = r
    · rw [if_pos h, List.filter_cons_of_neg (by simp [h]), h, Int.mul_add]; omega
    · rw [if_neg h, List.filter_cons_of_pos (by simp [h]), totF, Int.mul_add]; omega
theorem totF_zero (f : List Int → Int) : ∀ n (l : List It), l.length ≤ n → (∀ r, M64 ∣ tot r l) → M64 ∣ totF f l
  | _, [], _, _ => ⟨0, rfl⟩
  | 0, x :: l, h, _ => by simp at h
  | n + 1, x :: l, h, ht => by
    rw [totF_split f x.1]
    refine Int.dvd_add (Int.dvd_mul_of_dvd_right (ht x.1)) (totF_zero f n _ ?_ fun r => ?_)
    · rw [List.filter_cons_of_neg (by simp)]
      have := List.length_filter_le (fun y : It => decide (y.1 ≠ x.1)) l
      simp only [List.length_cons] at h
      omega
    · by_cases e : r = x.1
      · have : tot r ((x :: l).filter (fun y => decide (y.1 ≠ x.1))) = 0 := tot_none fun y hy e2 => by
          have := (List.mem_filter.1 hy).2
          simp only [decide_eq_true_eq] at this
          exact this (e2.trans e)
        rw [this]; exact ⟨0, rfl⟩
      · rw [tot_filter e]; exact ht r
/-- What has the same weights has the same of all that is linear. -/
theorem totF_wt {a b : List It} (h : ∀ r, wt a r = wt b r) (f : List Int → Int) : M64 ∣ totF f a - totF f b := by
  have h2 := totF_zero f _ (a ++ b.map (fun x => (x.1, -x.2))) (Nat.le_refl _) fun r => by
    rw [tot_app, tot_neg']
    have := wrp_dvd.1 (h r)
    rwa [← Int.sub_eq_add_neg]
  rwa [totF_app, totF_neg, ← Int.sub_eq_add_neg] at h2
theorem wt_app {a b c d : List It} (h1 : ∀ r, wt a r = wt c r) (h2 : ∀ r, wt b r = wt d r) : ∀ r, wt (a ++ b) r = wt (c ++ d) r := fun r => by
  unfold wt at *
  rw [tot_app, tot_app, wrp_dvd]
  have e1 := wrp_dvd.1 (h1 r)
  have e2 := wrp_dvd.1 (h2 r)
  have : tot r a + tot r b - (tot r c + tot r d) = (tot r a - tot r c) + (tot r b - tot r d) := by omega
  rw [this]
  exact Int.dvd_add e1 e2
theorem wt_neg {a b : List It} (h : ∀ r, wt a r = wt b r) : ∀ r, wt (a.map (fun x => (x.1, -x.2))) r = wt (b.map (fun x => (x.1, -x.2))) r := fun r => by
  unfold wt at *
  rw [tot_neg', tot_neg', wrp_dvd]
  have e1 := wrp_dvd.1 (h r)
  have : -tot r a - -tot r b = -(tot r a - tot r b) := by omega
  rw [this]
  exact Int.dvd_neg.2 e1
theorem wt_perm {a b : List It} (h : a.Perm b) : ∀ r, wt a r = wt b r := fun r => by unfold wt; rw [tot_perm h]
theorem wt_sumL (l : List It) : ∀ r, wt (sumL l) r = wt l r := (sumL_law l).2
theorem tot_where (p : List Int → Bool) (q : List Int) : ∀ A : List It, tot q (A.filter (fun x => p x.1)) = totF (fun r => if p r = true ∧ r = q then 1 else 0) A
  | [] => rfl
  | x :: A => by
    rw [totF, ← tot_where p q A]
    by_cases h : p x.1 = true
    · rw [List.filter_cons_of_pos (by simpa using h), tot]
      by_cases e : x.1 = q
      · rw [if_pos e, if_pos ⟨h, e⟩]; omega
      · rw [if_neg e, if_neg (fun h => e h.2)]; omega
    · rw [List.filter_cons_of_neg (by simpa using h), if_neg (fun q => h q.1)]; omega
theorem wt_where {a b : List It} (h : ∀ r, wt a r = wt b r) (p : List Int → Bool) : ∀ r, wt (a.filter (fun x => p x.1)) r = wt (b.filter (fun x => p x.1)) r := fun r => by
  have := totF_wt h (fun q => if p q = true ∧ q = r then 1 else 0)
  unfold wt
  rw [tot_where, tot_where]
  exact wrp_dvd.2 this
theorem tot_pick (g : List Int → List Int) (q : List Int) : ∀ A : List It, tot q (A.map (fun x => (g x.1, x.2))) = totF (fun r => if g r = q then 1 else 0) A
  | [] => rfl
  | x :: A => by
    rw [totF, ← tot_pick g q A, List.map_cons, tot]
    split <;> omega
theorem wt_pick {a b : List It} (h : ∀ r, wt a r = wt b r) (g : List Int → List Int) : ∀ r, wt (a.map (fun x => (g x.1, x.2))) r = wt (b.map (fun x => (g x.1, x.2))) r := fun r => by
  have := totF_wt h (fun q => if g q = r then 1 else 0)
  unfold wt
  rw [tot_pick, tot_pick]
  exact wrp_dvd.2 this
/-- Two sums are one where their weights are. -/
theorem sumL_same {a b : List It} (h : ∀ r, wt a r = wt b r) : sumL a = sumL b := sumL_wt h
end Go.Proofs.YtldlmkfigjicgaaDoor
/- Queries over sets with weights: what query.Check and plain.All tell. No program in sight. -/
namespace Go.Proofs.YtldlmkfigjicgaaDoor
set_option linter.unusedVariables false
set_option linter.unusedSimpArgs false

/-- A step of a query. -/
structure St where
  kind : Int
  a : Int
  b : Int
  col : Int
  op : Int
  val : Int
  list : List Int
instance : Inhabited St := ⟨⟨0, 0, 0, 0, 0, 0, []⟩⟩
def wiB (n lo hi : Int) : Bool := decide (lo ≤ n) && decide (n ≤ hi)
theorem wiB_iff {n lo hi : Int} : wiB n lo hi = true ↔ lo ≤ n ∧ n ≤ hi := by unfold wiB; simp
def twoB (s : St) : Bool := s.kind == 4 || (s.kind == 5 || s.kind == 6)
def noneB (s : St) : Bool := s.col == 0 && (s.op == 0 && s.val == 0)
def ofW (s : St) (a b : Int) : Int :=
  if s.kind = 2 then (if (wiB s.col 0 (a - 1) && (wiB s.op 1 3 && wiB s.val (-1073741824) 1073741824)) = true then a else 0)
  else if s.kind = 3 then (if (noneB s && (decide (s.list.length ≤ 8) && !s.list.any (fun n => !wiB n 0 (a - 1)))) = true then (s.list.length : Int) else 0)
  else if s.kind = 4 then (if (wiB s.col 0 (a - 1) && (s.op == 0 && (wiB s.val 0 (b - 1) && decide (a + b ≤ 8)))) = true then a + b else 0)
  else if s.kind = 5 ∨ s.kind = 6 then (if (noneB s && a == b) = true then a else 0)
  else if s.kind = 7 then (if noneB s = true then a else 0)
  else if s.kind = 8 then (if (wiB s.col 0 (a - 1) && (s.op == 0 && s.val == 0)) = true then 2 else 0)
  else if s.kind = 9 then (if (wiB s.col 0 (a - 1) && (s.op == 0 && wiB s.val 0 (a - 1))) = true then 2 else 0)
  else 0
def tblB (s : St) : Bool := wiB s.a 0 1 && (s.b == 0 && (s.col == 0 && (s.op == 0 && (s.val == 0 && s.list.length == 0))))
def badStep (s : St) (last : Int) : Bool := !wiB s.a 0 last || (twoB s && !wiB s.b 0 last || (!twoB s && s.b != 0 || (decide (0 < s.list.length) != (s.kind == 3))))
def stW (s : St) (W : List Int) : Int :=
  if s.kind = 1 then (if tblB s = true then 4 else 0)
  else if badStep s ((W.length : Int) - 1) = true then 0
  else ofW s (W.getD s.a.toNat 0) (W.getD s.b.toNat 0)
/-- Widths of all steps. -/
def widsL : List St → List Int → Option (List Int)
  | [], W => some W
  | s :: q, W => if stW s W = 0 then none else widsL q (W ++ [stW s W])
def queryE (q : List St) : Int := if q.length = 0 then 1 else if 8 < q.length then 2 else if widsL q [] = none then 1 else 0
def queryW (q : List St) : List Int := if queryE q = 0 then (widsL q []).getD [] else []
theorem widsL_app (q : List St) : ∀ (p : List St) (W : List Int), widsL (p ++ q) W = match widsL p W with | none => none | some V => widsL q V
  | [], W => rfl
  | s :: p, W => by
    rw [List.cons_append, widsL, widsL]
    by_cases h : stW s W = 0
    · rw [if_pos h, if_pos h]
    · rw [if_neg h, if_neg h, widsL_app q p]
theorem widsL_len : ∀ {q : List St} {W V : List Int}, widsL q W = some V → V.length = W.length + q.length ∧ V.take W.length = W
  | [], W, V, h => by
    rw [widsL] at h; injection h with h; subst h; simp
  | s :: q, W, V, h => by
    rw [widsL] at h
    by_cases e : stW s W = 0
    · rw [if_pos e] at h; cases h
    · rw [if_neg e] at h
      obtain ⟨h1, h2⟩ := widsL_len h
      rw [List.length_append, List.length_singleton] at h1 h2
      refine ⟨by rw [h1, List.length_cons]; omega, ?_⟩
      have := congrArg (List.take W.length) h2
      rw [List.take_take, Nat.min_eq_left (by omega), List.take_append_of_le_length (Nat.le_refl _), List.take_length] at this
      exact this
theorem queryE_zero {q : List St} : queryE q = 0 ↔ 0 < q.length ∧ q.length ≤ 8 ∧ ∃ W, widsL q [] = some W := by
  unfold queryE
  constructor
  · intro h
    by_cases h1 : q.length = 0
    · rw [if_pos h1] at h; omega
    · rw [if_neg h1] at h
      by_cases h2 : 8 < q.length
      · rw [if_pos h2] at h; omega
      · rw [if_neg h2] at h
        by_cases h3 : widsL q [] = none
        · rw [if_pos h3] at h; omega
        · exact ⟨by omega, by omega, Option.ne_none_iff_exists'.1 h3⟩
  · rintro ⟨h1, h2, W, h3⟩
    rw [if_neg (by omega), if_neg (by omega), if_neg (by rw [h3]; simp)]
/-- What a right step's numbers are. -/
def StOk (s : St) (W : List Int) : Prop :=
  (s.kind = 1 ∧ (s.a = 0 ∨ s.a = 1)) ∨
  (0 ≤ s.a ∧ s.a < W.length ∧ 0 ≤ s.b ∧ s.b < W.length ∧
    ((s.kind = 2 ∧ 0 ≤ s.col ∧ s.col < W.getD s.a.toNat 0) ∨
     (s.kind = 3 ∧ s.list.length ≤ 8 ∧ ∀ n ∈ s.list, 0 ≤ n ∧ n < W.getD s.a.toNat 0) ∨
     (s.kind = 4 ∧ 0 ≤ s.col ∧ s.col < W.getD s.a.toNat 0 ∧ 0 ≤ s.val ∧ s.val < W.getD s.b.toNat 0 ∧ W.getD s.a.toNat 0 + W.getD s.b.toNat 0 ≤ 8) ∨
     ((s.kind = 5 ∨ s.kind = 6) ∧ W.getD s.a.toNat 0 = W.getD s.b.toNat 0) ∨
     s.kind = 7 ∨
     (s.kind = 8 ∧ 0 ≤ s.col ∧ s.col < W.getD s.a.toNat 0) ∨
     (s.kind = 9 ∧ 0 ≤ s.col ∧ s.col < W.getD s.a.toNat 0 ∧ 0 ≤ s.val ∧ s.val < W.getD s.a.toNat 0)))
theorem stW_ok {s : St} {W : List Int} (h : stW s W ≠ 0) : StOk s W := by
  unfold stW at h
  unfold StOk
  by_cases h1 : s.kind = 1
  · rw [if_pos h1] at h
    by_cases h2 : tblB s = true
    · unfold tblB at h2
      simp only [Bool.and_eq_true, wiB_iff] at h2
      left; exact ⟨h1, by omega⟩
    · rw [if_neg h2] at h; exact absurd rfl h
  · rw [if_neg h1] at h
    by_cases h2 : badStep s ((W.length : Int) - 1) = true
    · rw [if_pos h2] at h; exact absurd rfl h
    · rw [if_neg h2] at h
      unfold badStep at h2
      simp only [Bool.or_eq_true, Bool.and_eq_true, Bool.not_eq_true', not_or, not_and, Bool.not_eq_false, Bool.not_eq_true, wiB_iff, bne_iff_ne, ne_eq, Decidable.not_not] at h2
      obtain ⟨q1, q2, q3, q4⟩ := h2
      right
      have hb : 0 ≤ s.b ∧ s.b < W.length := by
        cases e : twoB s
        · have := q3 e; omega
        · have := q2 e; omega
      refine ⟨by omega, by omega, hb.1, hb.2, ?_⟩
      unfold ofW noneB at h
      generalize W.getD s.a.toNat 0 = x at *
      generalize W.getD s.b.toNat 0 = y at *
      split at h
      · rename_i e
        left
        split at h
        · rename_i e2
          simp only [Bool.and_eq_true, wiB_iff] at e2
          exact ⟨e, by omega, by omega⟩
        · exact absurd rfl h
      · split at h
        · rename_i e
          right; left
          split at h
          · rename_i e2
            simp only [Bool.and_eq_true, decide_eq_true_eq, Bool.not_eq_true', List.any_eq_false, Bool.not_eq_false, wiB_iff] at e2
            exact ⟨e, e2.2.1, fun n hn => by have := e2.2.2 n hn; omega⟩
          · exact absurd rfl h
        · split at h
          · rename_i e
            right; right; left
            split at h
            · rename_i e2
              simp only [Bool.and_eq_true, decide_eq_true_eq, wiB_iff] at e2
              exact ⟨e, by omega, by omega, by omega, by omega, by omega⟩
            · exact absurd rfl h
          · split at h
            · rename_i e
              right; right; right; left
              split at h
              · rename_i e2
                simp only [Bool.and_eq_true, beq_iff_eq] at e2
                exact ⟨e, e2.2⟩
              · exact absurd rfl h
            · split at h
              · rename_i e
                exact .inr (.inr (.inr (.inr (.inl e))))
              · split at h
                · rename_i e
                  right; right; right; right; right; left
                  split at h
                  · rename_i e2
                    simp only [Bool.and_eq_true, wiB_iff] at e2
                    exact ⟨e, by omega, by omega⟩
                  · exact absurd rfl h
                · split at h
                  · rename_i e
                    right; right; right; right; right; right
                    split at h
                    · rename_i e2
                      simp only [Bool.and_eq_true, wiB_iff] at e2
                      exact ⟨e, by omega, by omega, by omega, by omega⟩
                    · exact absurd rfl h
                  · exact absurd rfl h

/-! what a step makes -/
def stHolds (op n v : Int) : Bool := if op = 1 then decide (n < v) else if op = 2 then decide (n = v) else decide (v < n)
def colD (r : List Int) (i : Int) : Int := r.getD i.toNat 0
def whereL (s : St) (A : List It) : List It := A.filter (fun x => stHolds s.op (colD x.1 s.col) s.val)
def pickR (s : St) (r : List Int) : List Int := s.list.map (fun i => colD r i)
def pickL (s : St) (A : List It) : List It := A.map (fun x => (pickR s x.1, x.2))
def linB (s : St) : Bool := s.kind == 2 || (s.kind == 3 || (s.kind == 5 || s.kind == 6))
def linL (s : St) (A B : List It) : List It :=
  if s.kind = 2 then whereL s A else if s.kind = 3 then pickL s A else if s.kind = 5 then A ++ B else if s.kind = 6 then A ++ negL B else []
def joinL (s : St) (A B : List It) : List It := A.flatMap (fun x => (B.filter (fun y => decide (colD y.1 s.val = colD x.1 s.col))).map (fun y => (x.1 ++ y.1, wrp (x.2 * y.2))))
def distL (A : List It) : List It := (A.filter (fun x => decide (0 < x.2))).map (fun x => (x.1, 1))
/-- A group: how many in all, and the sum. -/
def grpN (s : St) (A : List It) (k : Int) : Int := wrp (totF (fun r => if colD r s.col = k then 1 else 0) A)
def grpS (s : St) (A : List It) (k : Int) : Int := if s.kind = 9 then wrp (totF (fun r => if colD r s.col = k then colD r s.val else 0) A) else 0
def toldL (s : St) (k n m : Int) : List It := if n = 0 then [] else [([k, if s.kind = 9 then m else n], 1)]
/-- Each number once. -/
def dedupI : List Int → List Int
  | [] => []
  | x :: l => x :: (dedupI l).filter (fun y => decide (y ≠ x))
theorem dedupI_mem : ∀ (l : List Int) (x : Int), x ∈ dedupI l ↔ x ∈ l
  | [], x => by simp [dedupI]
  | y :: l, x => by
    rw [dedupI, List.mem_cons, List.mem_cons, List.mem_filter, dedupI_mem l x]
    by_cases e : x = y
    · simp [e]
    · simp [e]
theorem dedupI_nodup : ∀ l : List Int, (dedupI l).Nodup
  | [] => List.Pairwise.nil
  | y :: l => by
    rw [dedupI]
    refine List.nodup_cons.2 ⟨fun h => ?_, List.Pairwise.sublist List.filter_sublist (dedupI_nodup l)⟩
    have := (List.mem_filter.1 h).2
    simp at this
theorem dedupI_len : ∀ l : List Int, (dedupI l).length ≤ l.length
  | [] => Nat.le_refl _
  | y :: l => by
    rw [dedupI, List.length_cons, List.length_cons]
    have := List.length_filter_le (fun z => decide (z ≠ y)) (dedupI l)
    have := dedupI_len l
    omega
def keysG (s : St) (A : List It) : List Int := dedupI (A.map (fun x => colD x.1 s.col))
def groupL (s : St) (A : List It) : List It := (keysG s A).flatMap (fun k => toldL s k (grpN s A k) (grpS s A k))
def stL (s : St) (A B : List It) : List It :=
  if linB s = true then linL s A B else if s.kind = 4 then joinL s A B else if s.kind = 7 then distL A else if s.kind = 8 ∨ s.kind = 9 then groupL s A else []

/-- The list of a step, ahead of its sum. -/
def atL (ta tb : List It) (s : St) (out : List (List It)) : List It := if s.kind = 1 then (if s.a = 0 then ta else tb) else stL s (out.getD s.a.toNat []) (out.getD s.b.toNat [])
def setsG (ta tb : List It) : List St → List (List It) → Int × List (List It)
  | [], out => (0, out)
  | s :: q, out => if doneE (sumL (atL ta tb s out)) ≠ 0 then (doneE (sumL (atL ta tb s out)), []) else setsG ta tb q (out ++ [sumL (atL ta tb s out)])
def wideB (x : It) : Bool := decide (x.1.length ≠ 4)
def basesE (q : List St) (a b : List It) : Int := if queryE q ≠ 0 then queryE q else if setI a ≠ 0 then setI a else if setI b ≠ 0 then setI b else if (a ++ b).any wideB = true then 5 else 0
def allE (q : List St) (a b : List It) : Int := if basesE q a b ≠ 0 then basesE q a b else (setsG a b q []).1
def allX (q : List St) (a b : List It) : List (List It) := if allE q a b = 0 then (setsG a b q []).2 else []
def evalX (q : List St) (a b : List It) : List It := (allX q a b).getLastD []
theorem setsG_app (ta tb : List It) (q : List St) : ∀ (p : List St) (out : List (List It)), setsG ta tb (p ++ q) out = if (setsG ta tb p out).1 = 0 then setsG ta tb q (setsG ta tb p out).2 else setsG ta tb p out
  | [], out => by rw [List.nil_append, setsG, if_pos rfl]
  | s :: p, out => by
    rw [List.cons_append, setsG, setsG]
    by_cases h : doneE (sumL (atL ta tb s out)) ≠ 0
    · rw [if_pos h, if_pos h, if_neg h]
    · rw [if_neg h, if_neg h, setsG_app ta tb q p]
theorem setsG_len (ta tb : List It) : ∀ (q : List St) (out : List (List It)), (setsG ta tb q out).1 = 0 → (setsG ta tb q out).2.length = out.length + q.length ∧ (setsG ta tb q out).2.take out.length = out
  | [], out, _ => by rw [setsG]; simp
  | s :: q, out, h => by
    rw [setsG] at h ⊢
    by_cases e : doneE (sumL (atL ta tb s out)) ≠ 0
    · rw [if_pos e] at h; exact absurd h e
    · rw [if_neg e] at h ⊢
      obtain ⟨h1, h2⟩ := setsG_len ta tb q _ h
      rw [List.length_append, List.length_singleton] at h1 h2
      refine ⟨by rw [h1, List.length_cons]; omega, ?_⟩
      have := congrArg (List.take out.length) h2
      rw [List.take_take, Nat.min_eq_left (by omega), List.take_append_of_le_length (Nat.le_refl _), List.take_length] at this
      exact this
theorem basesE_zero {q : List St} {a b : List It} : basesE q a b = 0 ↔ queryE q = 0 ∧ setI a = 0 ∧ setI b = 0 ∧ (∀ x ∈ a, x.1.length = 4) ∧ ∀ x ∈ b, x.1.length = 4 := by
  unfold basesE
  constructor
  · intro h
    by_cases h1 : queryE q = 0
    · rw [if_neg (by simp [h1])] at h
      by_cases h2 : setI a = 0
      · rw [if_neg (by simp [h2])] at h
        by_cases h3 : setI b = 0
        · rw [if_neg (by simp [h3])] at h
          by_cases h4 : (a ++ b).any wideB = true
          · rw [if_pos h4] at h; omega
          · simp only [List.any_eq_true, not_exists, not_and, List.mem_append] at h4
            have key : ∀ x, x ∈ a ∨ x ∈ b → x.1.length = 4 := fun x hx => by
              have := h4 x hx
              unfold wideB at this
              simpa using this
            exact ⟨h1, h2, h3, fun x hx => key x (.inl hx), fun x hx => key x (.inr hx)⟩
        · rw [if_pos h3] at h; exact absurd h h3
      · rw [if_pos h2] at h; exact absurd h h2
    · rw [if_pos h1] at h; exact absurd h h1
  · rintro ⟨h1, h2, h3, h4, h5⟩
    rw [if_neg (by simp [h1]), if_neg (by simp [h2]), if_neg (by simp [h3]), if_neg]
    simp only [List.any_eq_true, not_exists, not_and, List.mem_append]
    rintro x (hx | hx)
    · unfold wideB; simp [h4 x hx]
    · unfold wideB; simp [h5 x hx]
end Go.Proofs.YtldlmkfigjicgaaDoor
