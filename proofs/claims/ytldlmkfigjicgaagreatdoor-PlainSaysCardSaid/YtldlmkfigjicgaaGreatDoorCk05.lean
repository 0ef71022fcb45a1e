/- Shelf, DotI, DotJ, DotK, DotL, DotM -/
import Derived.Shelf.SlSortCmp.WholeK
import Derived.Ground.SlsfProg
import Derived.Test.YtldlmkfigjicgaaGreatDoorRows
import Derived.Test.YtldlmkfigjicgaaGreatDoorCk02
import Derived.Shelf.SlSortCmp.NoneTotal
import Derived.Test.YtldlmkfigjicgaaGreatDoorCk01
import Derived.WalkSpells
import Derived.Maps.AppendAt
import Derived.Shelf.Slices.CompactI
/-
  DERIVED: THE SHELF's CONTRACTS AT THIS DUMP, IN PLAIN WORDS (tools/lay-plain.mjs out of 'YtldlmkfigjicgaaGreatDoorShelf.lean', which tools/lay-shelf.mjs wrote): THE SAME DECLARATIONS UNDER THE SAME NAMES: 'import', 'namespace', 'open', 'def', 'theorem' AND NOTHING ELSE: no command of the shelf's: FOR A HAND-IN. Each laying: the table of numbers ('.._ren') and one theorem, a field a fact of the dump's own or the kernel's comparison; each contract: ONE APPLICATION.
-/
namespace Go.Proofs
open Go.Shelf
def Tryz.sortItem_ren : Go.Shelf.Ren := ⟨fun | 20 => 112 | n => n, fun | 24 => 67 | 22 => 22 | 3 => 3 | 25 => 111 | 4 => 4 | 0 => 0 | n => n, fun | n => n⟩
theorem Tryz.sortItem : Go.Proofs.SlLaysF0.n20 Tryz.prog Tryz.sortItem_ren := {
  mixed := by kernel_rfl
  f20 := ⟨Tryz.f112.name, by decide, Tryz.func112.trans (congrArg some (by kernel_rfl))⟩
  t0 := Tryz.underlying0
  a0 := Tryz.isAgg0
  z0 := Tryz.sizeOf0
  v0 := Tryz.zeroValue0
  t3 := Tryz.underlying3
  a3 := Tryz.isAgg3
  z3 := Tryz.sizeOf3
  v3 := Tryz.zeroValue3
  t4 := Tryz.underlying4
  a4 := Tryz.isAgg4
  z4 := Tryz.sizeOf4
  v4 := Tryz.zeroValue4
  t22 := Tryz.underlying22
  a22 := Tryz.isAgg22
  z22 := Tryz.sizeOf22
  v22 := Tryz.zeroValue22
  t25 := Tryz.underlying111
  a25 := Tryz.isAgg111
  z25 := Tryz.sizeOf111
  v25 := Tryz.zeroValue111 }
def Tryz.sortDot_ren : Go.Shelf.Ren := ⟨fun | 6 => 116 | 15 => 102 | 14 => 147 | 28 => 128 | 29 => 129 | 20 => 159 | 21 => 160 | 22 => 161 | 23 => 162 | 24 => 163 | 25 => 164 | 26 => 165 | 27 => 166 | 46 => 173 | 47 => 149 | 48 => 150 | 49 => 174 | 50 => 175 | 57 => 180 | n => n, fun | 22 => 24 | 24 => 78 | 25 => 115 | 3 => 3 | 39 => 140 | 0 => 0 | 53 => 163 | 55 => 165 | 4 => 4 | 46 => 156 | 45 => 155 | 50 => 160 | 5 => 5 | 9 => 9 | 66 => 177 | 70 => 181 | 76 => 191 | 77 => 192 | n => n, fun | n => n⟩
theorem Tryz.sortDot : Go.Proofs.SlLaysF0.n6 Tryz.prog Tryz.sortDot_ren := {
  mixed := by kernel_rfl
  f6 := ⟨Tryz.f116.name, by decide, Tryz.func116.trans (congrArg some (by kernel_rfl))⟩
  f14 := ⟨Tryz.f147.name, by decide, Tryz.func147.trans (congrArg some (by kernel_rfl))⟩
  f15 := Tryz.func102.trans (congrArg some (by kernel_rfl))
  f20 := ⟨Tryz.f159.name, by decide, Tryz.func159.trans (congrArg some (by kernel_rfl))⟩
  f21 := ⟨Tryz.f160.name, by decide, Tryz.func160.trans (congrArg some (by kernel_rfl))⟩
  f22 := ⟨Tryz.f161.name, by decide, Tryz.func161.trans (congrArg some (by kernel_rfl))⟩
  f23 := ⟨Tryz.f162.name, by decide, Tryz.func162.trans (congrArg some (by kernel_rfl))⟩
  f24 := ⟨Tryz.f163.name, by decide, Tryz.func163.trans (congrArg some (by kernel_rfl))⟩
  f25 := ⟨Tryz.f164.name, by decide, Tryz.func164.trans (congrArg some (by kernel_rfl))⟩
  f26 := ⟨Tryz.f165.name, by decide, Tryz.func165.trans (congrArg some (by kernel_rfl))⟩
  f27 := ⟨Tryz.f166.name, by decide, Tryz.func166.trans (congrArg some (by kernel_rfl))⟩
  f28 := Tryz.func128.trans (congrArg some (by kernel_rfl))
  f29 := Tryz.func129.trans (congrArg some (by kernel_rfl))
  f46 := ⟨Tryz.f173.name, by decide, Tryz.func173.trans (congrArg some (by kernel_rfl))⟩
  f47 := Tryz.func149.trans (congrArg some (by kernel_rfl))
  f48 := Tryz.func150.trans (congrArg some (by kernel_rfl))
  f49 := ⟨Tryz.f174.name, by decide, Tryz.func174.trans (congrArg some (by kernel_rfl))⟩
  f50 := ⟨Tryz.f175.name, by decide, Tryz.func175.trans (congrArg some (by kernel_rfl))⟩
  f57 := ⟨Tryz.f180.name, by decide, Tryz.func180.trans (congrArg some (by kernel_rfl))⟩
  t0 := Tryz.underlying0
  a0 := Tryz.isAgg0
  z0 := Tryz.sizeOf0
  v0 := Tryz.zeroValue0
  t3 := Tryz.underlying3
  a3 := Tryz.isAgg3
  z3 := Tryz.sizeOf3
  v3 := Tryz.zeroValue3
  t4 := Tryz.underlying4
  a4 := Tryz.isAgg4
  z4 := Tryz.sizeOf4
  v4 := Tryz.zeroValue4
  t5 := Tryz.underlying5
  a5 := Tryz.isAgg5
  z5 := Tryz.sizeOf5
  v5 := Tryz.zeroValue5
  t9 := Tryz.underlying9
  a9 := Tryz.isAgg9
  z9 := Tryz.sizeOf9
  v9 := Tryz.zeroValue9
  t22 := Tryz.underlying24
  a22 := Tryz.isAgg24
  z22 := Tryz.sizeOf24
  v22 := Tryz.zeroValue24
  t25 := Tryz.underlying115
  a25 := Tryz.isAgg115
  z25 := Tryz.sizeOf115
  v25 := Tryz.zeroValue115
  t39 := Tryz.underlying140
  a39 := Tryz.isAgg140
  z39 := Tryz.sizeOf140
  v39 := Tryz.zeroValue140
  t45 := Tryz.underlying155
  a45 := Tryz.isAgg155
  z45 := Tryz.sizeOf155
  v45 := Tryz.zeroValue155
  t46 := Tryz.underlying156
  a46 := Tryz.isAgg156
  z46 := Tryz.sizeOf156
  v46 := Tryz.zeroValue156
  t50 := Tryz.underlying160
  a50 := Tryz.isAgg160
  z50 := Tryz.sizeOf160
  v50 := Tryz.zeroValue160
  t53 := Tryz.underlying163
  a53 := Tryz.isAgg163
  z53 := Tryz.sizeOf163
  v53 := Tryz.zeroValue163
  t55 := Tryz.underlying165
  a55 := Tryz.isAgg165
  z55 := Tryz.sizeOf165
  v55 := Tryz.zeroValue165
  t66 := Tryz.underlying177
  a66 := Tryz.isAgg177
  z66 := Tryz.sizeOf177
  v66 := Tryz.zeroValue177
  t70 := Tryz.underlying181
  a70 := Tryz.isAgg181
  z70 := Tryz.sizeOf181
  v70 := Tryz.zeroValue181
  t76 := Tryz.underlying191
  a76 := Tryz.isAgg191
  z76 := Tryz.sizeOf191
  v76 := Tryz.zeroValue191
  t77 := Tryz.underlying192
  a77 := Tryz.isAgg192
  z77 := Tryz.sizeOf192
  v77 := Tryz.zeroValue192 }
end Go.Proofs
/- dot.Order as slices.SortFunc asks it; the sort's contract over a row of dots that the call owns. -/
namespace Go.Proofs.YtldlmkfigjicgaaGreatDoor
set_option linter.unusedVariables false
open Go.ChangeShapes Go.WideShapes Go.ChangeAt Go.RowKit
open Go.Shelf Go.Lib
open Go.Sort (grow SWO PermIn SortedIn alloc_eq_grow grow_grow drew_grow HoldsK)

set_option maxHeartbeats 400000 in
set_option maxRecDepth 100000 in
theorem order_grow (a0 a1 b0 b1 : Int) (w : World) :
    Calls Tryz.prog 78 #[.agg #[.int .i64 a0, .int .i64 a1], .agg #[.int .i64 b0, .int .i64 b1]] w fun e w' => e = .returned (.int .i64 (or2 (cmpI a0 b0) (cmpI a1 b1))) ∧ ∃ q os', w' = grow (w.drewN q) os' := by
  go_enter Tryz.func78, Tryz.ntmps78
  go_wp2
  refine region_tail 10 (by kernel_rfl) (by kernel_rfl) ?_
  simp only [List.take_succ_cons, List.take_zero, List.drop_succ_cons, List.drop_zero]
  repeat (first | still_step | still_call ((compare_any _ _ _).mono fun _ _ ⟨h1, h2⟩ => ⟨h1, h2.symm⟩))
  refine wpStill_nil ?_
  go_wp2_with (go_at_call 100; refine (or_any _ (cmpI a0 b0) (cmpI a1 b1) _ (by simp [go_sem]) (by simp [go_sem])).mono ?_; rintro e w' ⟨rfl, rfl⟩)
  go_ret
  exact ⟨rfl, 1, _, by rw [alloc_eq_grow, alloc_eq_grow, alloc_eq_grow, grow_grow, grow_grow, drew_grow]; rfl⟩

def dotCf (x y : Int × Int) : Int := or2 (cmpI x.1 y.1) (cmpI x.2 y.2)
abbrev encD (x : Int × Int) : List Value := [.int .i64 x.1, .int .i64 x.2]

theorem ltOf_dot (x y : Int × Int) : ltOf dotCf x y = before x y := by
  have := cmp_before x y
  unfold ltOf dotCf
  cases h : before x y
  · rw [h] at this; simp at this; simp; omega
  · rw [h] at this; simp at this; simp; omega

theorem swo_dot : SWO (ltOf dotCf) where
  irrefl x := by rw [ltOf_dot]; simp [before]
  trans x y z h1 h2 := by rw [ltOf_dot] at *; simp [before] at *; omega
  ntrans x y z h1 h2 := by rw [ltOf_dot] at *; simp [before] at *; omega

theorem cmpLays_dot (blk off size : Nat) (w : World) : CmpLays Tryz.prog 78 #[] encD 2 dotCf blk off size w :=
  fun _ _ _ _ x y => order_grow x.1 x.2 y.1 y.2 _

theorem enters_order : ∀ args w, (callFunc 78 args).run Tryz.prog w = .ok (.enter 78 args) w := enters_of Tryz.func78 (by kernel_rfl) rfl

theorem sort_raw (blk off cap : Nat) (d : Array (Int × Int)) (w : World) (hH : HoldsK encD 2 w blk off d) (hblk : blk < w.heap.size) (hsz : d.size < 4611686018427387904) :
    Calls Tryz.prog 116 #[.slice (some ⟨blk, off, none⟩) d.size cap, .func (.func 78) #[] #[]] w fun e w' => e = .returned (.tuple #[]) ∧ ∃ d' n os, PermIn 0 d.size d d' ∧ SortedIn (ltOf dotCf) 0 d.size d' ∧ w' = sortWorldK encD 2 w blk off n d' os :=
  AnyQ.slices_SortFunc Tryz.sortDot 2 Tryz.isAgg78 Tryz.sizeOf78 encD (fun _ => rfl) (fun x v hv => by simp [encD] at hv; rcases hv with rfl | rfl <;> rfl) dotCf swo_dot 78 #[] blk off cap d w enters_order (cmpLays_dot blk off d.size w) hH hblk hsz
end Go.Proofs.YtldlmkfigjicgaaGreatDoor
/- The sort over a row of dots that the call owns: the row holds a permutation, in order; all else stands. -/
namespace Go.Proofs.YtldlmkfigjicgaaGreatDoor
set_option linter.unusedVariables false
open Go.ChangeShapes Go.WideShapes Go.ChangeAt Go.RowKit
open Go.Shelf Go.Lib
open Go.Sort (grow SWO PermIn SortedIn alloc_eq_grow grow_grow drew_grow HoldsK flatK putRow putCells mapBlock Holds)

theorem dcells_flat (l : List (Int × Int)) : (dcells l).toArray = flatK encD 2 l.toArray := by
  apply Array.ext
  · rw [List.size_toArray, dcells_len, Sort.size_flatK]; simp; omega
  · intro i h1 h2
    have hi' : i < (dcells l).length := by rw [List.size_toArray] at h1; exact h1
    have hi : i < 2 * l.length := by rw [dcells_len] at hi'; exact hi'
    have hk : i / 2 < l.length := by omega
    obtain ⟨g0, g1⟩ := dcells_get l (i / 2) hk
    have e := Sort.get_flatK encD 2 l.toArray i (by simp; omega)
    rw [getElem!_pos _ i h2] at e
    rw [e]
    have hl : l.toArray[i / 2]! = l[i / 2] := by simp [hk]
    rw [hl]
    rcases Nat.mod_two_eq_zero_or_one i with h | h
    · rw [h]
      have hi2 : i / 2 * 2 = i := by omega
      rw [hi2] at g0
      have : (dcells l)[i]? = some ((dcells l)[i]'hi') := List.getElem?_eq_getElem _
      rw [this] at g0
      injection g0
    · rw [h]
      have hi2 : i / 2 * 2 + 1 = i := by omega
      rw [hi2] at g1
      have : (dcells l)[i]? = some ((dcells l)[i]'hi') := List.getElem?_eq_getElem _
      rw [this] at g1
      injection g1

def dotLe (x y : Int × Int) : Bool := !before y x
theorem dotLe_eq : (fun x y : Int × Int => !(ltOf dotCf) y x) = dotLe := by
  funext x y
  rw [ltOf_dot, dotLe]

theorem sort_total (blk off cap : Nat) (l : List (Int × Int)) (w : World) (hH : HoldsK encD 2 w blk off l.toArray) (hblk : blk < w.heap.size) (hsz : l.length < 4611686018427387904) :
    Calls Tryz.prog 116 #[.slice (some ⟨blk, off, none⟩) l.length cap, .func (.func 78) #[] #[]] w fun e w' => e = .returned (.tuple #[]) ∧ ∃ n os, w' = sortWorldK encD 2 w blk off n (l.mergeSort dotLe).toArray os := by
  have H := AnyQ.slices_SortFunc_total Tryz.sortDot 2 Tryz.isAgg78 Tryz.sizeOf78 encD (fun _ => rfl) (fun x v hv => by simp [encD] at hv; rcases hv with rfl | rfl <;> rfl) dotCf swo_dot 78 #[] blk off cap l.toArray w enters_order (cmpLays_dot blk off l.toArray.size w) hH hblk (by simpa using hsz) (fun x y h1 h2 => by
    rw [ltOf_dot] at h1 h2
    ext <;> (simp [before] at h1 h2; omega))
  rw [dotLe_eq] at H
  simp at H
  exact H

theorem take_eq_get {cur : Array Value} {n : Nat} {xs : List Value} (h : cur.toList.take n = xs) {j : Nat} (hj : j < xs.length) : cur[j]? = xs[j]? := by
  subst h
  rw [List.getElem?_take_of_lt (by simp at hj; omega)]
  simp

theorem holdsK_own {w : World} {B n cap g : Nat} {l : List (Int × Int)} {cur : Array Value} {T : TypeId} (hg : w.heap[g]? = some (.cells cur T (0, 0))) (hc : cur.toList.take (l.length * 2) = dcells l) : HoldsK encD 2 w g 0 l.toArray := by
  intro j hj
  rw [← dcells_flat] at hj ⊢
  have hj' : j < (dcells l).length := by simpa using hj
  have e := take_eq_get hc hj'
  have e2 : (dcells l).toArray[j]! = (dcells l)[j] := by
    rw [getElem!_pos _ j hj]; simp
  rw [e2]
  constructor
  · rw [Nat.zero_add, cell_of_row w g j cur T (0, 0) hg, e, List.getElem?_eq_getElem hj']; rfl
  · simp [World.frozen?, hg]

theorem sorted_world {w : World} {B cap g n : Nat} {l l' : List (Int × Int)} {cur : Array Value} {T : TypeId} {os : Array Obj} (hb : B ≤ g) (hg : w.heap[g]? = some (.cells cur T (0, 0))) (hcap : l.length ≤ cap) (hm : cap ≤ maxLen) (hs : cur.size = cap * 2)
    (hlen : l'.length = l.length) :
    (sortWorldK encD 2 w g 0 n l'.toArray os).ownsRow B T 2 (.slice (some ⟨g, 0, none⟩) l.length cap) l.length (dcells l') ∧ w.grownBy (sortWorldK encD 2 w g 0 n l'.toArray os) (some g) := by
  have hlt : g < w.heap.size := by
    rcases Nat.lt_or_ge g w.heap.size with h | h
    · exact h
    · rw [Array.getElem?_eq_none h] at hg; cases hg
  have hnew : (sortWorldK encD 2 w g 0 n l'.toArray os).heap[g]? = some (.cells (putCells id 0 (flatK encD 2 l'.toArray) cur) T (0, 0)) := by
    unfold sortWorldK grow Sort.putRowK putRow mapBlock Sort.ahead
    simp only [Array.getElem?_append, Array.size_modify, hlt, if_true, Array.getElem?_modify, hg, Option.map_some]
    rfl
  refine ⟨⟨by rw [dcells_len]; omega, .inr ⟨g, cap, _, rfl, hb, hnew, hcap, hm, by simp [putCells, hs], ?_⟩⟩, ?_⟩
  · rw [← dcells_flat]
    apply List.ext_getElem?
    intro j
    by_cases hj : j < (dcells l').length
    · have hj2 : j < l.length * 2 := by rw [dcells_len] at hj; omega
      have hjc : j < cur.size := by rw [hs]; omega
      rw [List.getElem?_take_of_lt hj2]
      simp only [putCells, Array.toList_mapIdx, List.getElem?_mapIdx]
      have : cur.toList[j]? = some cur.toList[j] := List.getElem?_eq_getElem (by simpa using hjc)
      rw [this]
      simp only [Option.map_some, Nat.zero_le, Nat.zero_add, List.size_toArray, hj, and_self, if_true, Nat.sub_zero, id]
      rw [getElem!_pos _ j (by simpa using hj), List.getElem?_eq_getElem hj]
      simp
    · rw [List.getElem?_eq_none (Nat.le_of_not_lt hj), List.getElem?_eq_none]
      rw [List.length_take]
      rw [dcells_len] at hj
      omega
  · refine ⟨rfl, rfl, rfl, ?_, ?_⟩
    · unfold sortWorldK grow Sort.putRowK putRow mapBlock Sort.ahead
      simp
    · intro k hk hne
      have hne' : g ≠ k := fun e => hne (by rw [e])
      unfold sortWorldK grow Sort.putRowK putRow mapBlock Sort.ahead
      simp [Array.getElem?_append, hk, Array.getElem_modify, hne']

/-- The sort over a row that the call owns (nil too). -/
theorem sort_own {B : Nat} {v : Value} (l : List (Int × Int)) (w : World) (hown : w.ownsRow B 78 2 v l.length (dcells l)) (hl : l.length ≤ 140737488355328) :
    Calls Tryz.prog 116 #[v, .func (.func 78) #[] #[]] w fun e w' => e = .returned (.tuple #[]) ∧ w'.ownsRow B 78 2 v l.length (dcells (l.mergeSort dotLe)) ∧ w.grownBy w' v.ownBlock := by
  rcases hown.2 with ⟨rfl, h0⟩ | ⟨g, cap, cur, rfl, hb, hg, hcap, hm, hs, ht⟩
  · have hl0 : l = [] := List.eq_nil_of_length_eq_zero h0
    subst hl0
    refine (AnyF.slices_SortFunc_none Tryz.sortDot none 0 _ w).mono fun e w' ⟨he, hw⟩ => ?_
    subst hw
    refine ⟨he, by simpa using hown, ⟨rfl, rfl, rfl, Nat.le_refl _, fun _ _ _ => rfl⟩⟩
  · have hlt : g < w.heap.size := by
      rcases Nat.lt_or_ge g w.heap.size with h | h
      · exact h
      · rw [Array.getElem?_eq_none h] at hg; cases hg
    refine (sort_total g 0 cap l w (holdsK_own (B := B) (n := 0) (cap := cap) hg ht) hlt (by omega)).mono fun e w' ⟨he, n, os, hw⟩ => ?_
    subst hw
    have := sorted_world (l' := l.mergeSort dotLe) (os := os) (n := n) hb hg hcap hm hs (by simp)
    exact ⟨he, this.1, this.2⟩
end Go.Proofs.YtldlmkfigjicgaaGreatDoor
/- slices.Clone at Dot. -/
namespace Go.Proofs.YtldlmkfigjicgaaGreatDoor
set_option linter.unusedVariables false
open Go.ChangeShapes Go.WideShapes Go.ChangeAt Go.RowKit

theorem info_dot : (Tryz.prog.info? 78).map (fun i => (i.zero, i.size, i.bytes)) = some (some (.agg #[.int .i64 0, .int .i64 0]), 2, 16) := by kernel_rfl

theorem dcells_one (l : List (Int × Int)) : ∀ u ∈ dcells l, u.oneCell' = true := by
  intro u hu
  obtain ⟨d, _, h⟩ := List.mem_flatMap.1 hu
  simp at h
  rcases h with rfl | rfl <;> rfl

theorem Row.news {w : World} {B : Nat} {ad : Addr} {xs : List Value} (h : Row w B (some ad) xs) : ∀ j u, xs[j]? = some u → w.cell? (ad.add j) = some u := by
  intro j u hu
  rcases h with h | ⟨b, off, h1, _, h3⟩
  · subst h; simp at hu
  · injection h1 with h1
    subst h1
    rw [add_none]
    exact h3 j u hu

set_option maxHeartbeats 400000 in
set_option maxRecDepth 100000 in
theorem clone_any (l : List (Int × Int)) (A : Option Addr) (c : Nat) (w : World) (hr : Row w w.heap.size A (dcells l)) (hl : l.length ≤ 1048576) :
    Calls Tryz.prog 115 #[.slice A l.length c] w fun e w' => ∃ v, e = .returned v ∧ w'.ownsRow w.heap.size 78 2 v l.length (dcells l) ∧ Below w.heap.size w w' := by
  obtain ⟨i0, hi0, hz0, hz1, hz2⟩ := info_parts info_dot
  rcases A with _ | ad
  · have he : l = [] := by
      rcases hr with h | ⟨b, off, h, _⟩
      · have := congrArg List.length h
        rw [dcells_len] at this
        exact List.eq_nil_of_length_eq_zero (by simp at this; omega)
      · cases h
    subst he
    have hnil := fun (w : World) => Lib.run_eql_slice_nil w (P := Tryz.prog) (t := 24) (e := 78) none 0 c 0 0 Tryz.underlying24
    go_enter Tryz.func115, Tryz.ntmps115
    go_wp2
    go_ret
    exact ⟨_, rfl, World.ownsRow_nil _ _ _ _, Below.refl _ _⟩
  · have hnil := fun (w : World) => Lib.run_eql_slice_nil w (P := Tryz.prog) (t := 24) (e := 78) (some ad) l.length c 0 0 Tryz.underlying24
    have HR := hid hr
    clear hr
    go_enter Tryz.func115, Tryz.ntmps115
    go_wp2_with (at_builtin; refine wpList_append_own_at _ rfl _ _ 24 rfl w.heap.size 78 i0 _ 2 16 Tryz.underlying24 hi0 hz0 hz1 hz2 rfl (by decide) (.slice (some ⟨w.heap.size, 0, none⟩) 0 0) 0 [] rfl (World.ownsRow_made w #[] 0 (Nat.le_refl _) (by decide) rfl) ad l.length c (dcells l) rfl (by rw [dcells_len]; omega) (HR.out.below (Below.alloc (Below.refl _ _) (Nat.le_refl _) _) (Nat.le_refl _)).news (dcells_one l) ?_ ?_ ?_ ?_; rotate_right; intro v1 w1 hown1 hg1 _ hat1; rotate_left; (simp only [maxLen]; omega); (omega); (simp))
    go_ret
    refine ⟨v1, rfl, by simpa using hown1, ((Below.refl _ _).alloc (Nat.le_refl _) _).grown hg1 (by simp) (fun k hk => ?_)⟩
    simp [Value.ownBlock] at hk
    omega
end Go.Proofs.YtldlmkfigjicgaaGreatDoor
/- slices.Compact at Dot, over a row that the call owns. -/
namespace Go.Proofs.YtldlmkfigjicgaaGreatDoor
set_option linter.unusedVariables false
open Go.ChangeShapes Go.WideShapes Go.ChangeAt Go.RowKit

/-- Runs of equal neighbours, each once. -/
def cpt : List (Int × Int) → List (Int × Int)
  | [] => []
  | [a] => [a]
  | a :: b :: r => if a = b then cpt (b :: r) else a :: cpt (b :: r)

theorem cpt_snoc (x : Int × Int) : ∀ l : List (Int × Int), cpt (l ++ [x]) = if l.getLast? = some x then cpt l else cpt l ++ [x]
  | [] => by simp [cpt]
  | [a] => by
    by_cases h : a = x <;> simp [cpt, h]
  | a :: b :: r => by
    have ih := cpt_snoc x (b :: r)
    simp only [List.cons_append] at ih ⊢
    simp only [cpt, List.getLast?_cons_cons]
    rw [ih]
    by_cases h : a = b <;> by_cases h2 : (b :: r).getLast? = some x <;> simp [h, h2]

theorem cpt_same : ∀ l : List (Int × Int), (∀ j (h : j + 1 < l.length), l[j + 1] ≠ l[j]) → cpt l = l
  | [], _ => rfl
  | [a], _ => rfl
  | a :: b :: r, h => by
    have h0 := h 0 (by simp)
    simp at h0
    rw [cpt, if_neg (fun e => h0 e.symm), cpt_same (b :: r) (fun j hj => by have := h (j + 1) (by simp at hj ⊢; omega); simpa using this)]

theorem own_dot {w : World} {B n cap g : Nat} {T : TypeId} {l : List (Int × Int)} (h : w.ownsRow B T 2 (.slice (some ⟨g, 0, none⟩) n cap) n (dcells l)) {k : Nat} (hk : k < l.length) :
    w.cell? ⟨g, k * 2, none⟩ = some (.int .i64 l[k].1) ∧ w.cell? ⟨g, k * 2 + 1, none⟩ = some (.int .i64 l[k].2) := by
  obtain ⟨g0, g1⟩ := dcells_get l k hk
  have h0 := h.cells (g := g) rfl _ _ g0
  have h1 := h.cells (g := g) rfl _ _ g1
  rw [add_none, Nat.zero_add] at h0 h1
  exact ⟨h0, h1⟩

theorem own_short {w : World} {B n cap g k : Nat} {T : TypeId} {xs : List Value} (h : w.ownsRow B T 2 (.slice (some ⟨g, 0, none⟩) n cap) n xs) (hk : k ≤ n) :
    w.ownsRow B T 2 (.slice (some ⟨g, 0, none⟩) k cap) k (xs.take (k * 2)) := by
  rcases h.2 with ⟨h', _⟩ | ⟨g', cap', cur, h', hb, hg, hnc, hcm, hcs, htake⟩
  · cases h'
  · simp only [Value.slice.injEq, Option.some.injEq, Addr.mk.injEq, and_true, true_and] at h'
    obtain ⟨rfl, rfl⟩ := h'
    refine ⟨by rw [List.length_take, h.1]; omega, .inr ⟨g, cap, cur, rfl, hb, hg, by omega, hcm, hcs, ?_⟩⟩
    rw [← htake, List.take_take, Nat.min_eq_left (by omega)]

theorem own_beyond {B n cap g : Nat} {T : TypeId} {xs : List Value} : ∀ (vs : List Value) (w : World) (off : Nat), w.ownsRow B T 2 (.slice (some ⟨g, 0, none⟩) n cap) n xs → n * 2 ≤ off →
    (w.setCells g off vs).ownsRow B T 2 (.slice (some ⟨g, 0, none⟩) n cap) n xs ∧ w.grownBy (w.setCells g off vs) (some g)
  | [], w, off, h, _ => ⟨h, ⟨rfl, rfl, rfl, Nat.le_refl _, fun _ _ _ => rfl⟩⟩
  | v :: vs, w, off, h, ho => by
    have hs := h.stored off v
    have e : xs.set off v = xs := List.set_eq_of_length_le (by rw [h.1]; exact ho)
    rw [e] at hs
    obtain ⟨h1, h2⟩ := own_beyond vs _ (off + 1) hs.1 (by omega)
    rw [World.setCells]
    exact ⟨h1, ⟨h2.os.trans hs.2.os, h2.tape.trans hs.2.tape, h2.output.trans hs.2.output, Nat.le_trans hs.2.size h2.size, fun k hk hne => (h2.block k (Nat.lt_of_lt_of_le hk hs.2.size) hne).trans (hs.2.block k hk hne)⟩⟩

theorem grown_trans {w w1 w2 : World} {row : Option Nat} (h1 : w.grownBy w1 row) (h2 : w1.grownBy w2 row) : w.grownBy w2 row :=
  ⟨h2.os.trans h1.os, h2.tape.trans h1.tape, h2.output.trans h1.output, Nat.le_trans h1.size h2.size, fun k hk hne => (h2.block k (Nat.lt_of_lt_of_le hk h1.size) hne).trans (h1.block k hk hne)⟩
theorem grown_drewN {w w1 : World} {row : Option Nat} (h1 : w.grownBy w1 row) (n : Nat) : w.grownBy (w1.drewN n) row := ⟨h1.os, h1.tape, h1.output, h1.size, h1.block⟩
theorem grown_refl (w : World) (row : Option Nat) : w.grownBy w row := ⟨rfl, rfl, rfl, Nat.le_refl _, fun _ _ _ => rfl⟩

theorem dcells_set : ∀ (l : List (Int × Int)) (k : Nat) (d : Int × Int), ((dcells l).set (k * 2) (.int .i64 d.1)).set (k * 2 + 1) (.int .i64 d.2) = dcells (l.set k d)
  | [], k, d => by simp
  | a :: l, 0, d => by simp [List.flatMap_cons]
  | a :: l, k + 1, d => by
    have ih := dcells_set l k d
    have e : (k + 1) * 2 = k * 2 + 1 + 1 := by omega
    simp only [dcells, List.flatMap_cons, List.set_cons_succ, e] at ih ⊢
    simpa using ih

theorem own_store {w : World} {B n cap g : Nat} {T : TypeId} {l : List (Int × Int)} (h : w.ownsRow B T 2 (.slice (some ⟨g, 0, none⟩) n cap) n (dcells l)) (k : Nat) (d : Int × Int) :
    ((w.setCell ⟨g, k * 2, none⟩ (.int .i64 d.1)).setCell ⟨g, k * 2 + 1, none⟩ (.int .i64 d.2)).ownsRow B T 2 (.slice (some ⟨g, 0, none⟩) n cap) n (dcells (l.set k d)) ∧
      w.grownBy ((w.setCell ⟨g, k * 2, none⟩ (.int .i64 d.1)).setCell ⟨g, k * 2 + 1, none⟩ (.int .i64 d.2)) (some g) := by
  have h1 := h.stored (k * 2) (.int .i64 d.1)
  have h2 := h1.1.stored (k * 2 + 1) (.int .i64 d.2)
  rw [dcells_set] at h2
  exact ⟨h2.1, grown_trans h1.2 h2.2⟩

/-- Within the inner loop: of the first m places the runs stand in the first kk; from m - 1 on all is as it was. -/
structure CInv (l : List (Int × Int)) (m kk : Nat) (ds : List (Int × Int)) : Prop where
  len : ds.length = l.length
  lt : kk + 1 ≤ m
  low : ds.take kk = cpt (l.take m)
  high : ∀ j (h : j < l.length) (h' : j < ds.length), m ≤ j + 1 → ds[j] = l[j]

theorem CInv.skip {l ds : List (Int × Int)} {m kk : Nat} (h : CInv l m kk ds) (hm : m < l.length) (hm0 : 0 < m) (he : l[m] = l[m - 1]) : CInv l (m + 1) kk ds := by
  refine ⟨h.len, by have := h.lt; omega, ?_, fun j hj hj' hm' => h.high j hj hj' (by omega)⟩
  rw [List.take_succ_eq_append_getElem hm, cpt_snoc, if_pos, h.low]
  rw [List.getLast?_eq_getElem?, List.length_take, Nat.min_eq_left (by omega), List.getElem?_take_of_lt (by omega), List.getElem?_eq_getElem (by omega), he]

theorem CInv.keep {l ds : List (Int × Int)} {m kk : Nat} (h : CInv l m kk ds) (hm : m < l.length) (hm0 : 0 < m) (he : l[m] ≠ l[m - 1]) : CInv l (m + 1) (kk + 1) (ds.set kk l[m]) := by
  have hlt := h.lt
  have hlen := h.len
  refine ⟨by simpa using hlen, by omega, ?_, fun j hj hj' hm' => ?_⟩
  · rw [List.take_succ_eq_append_getElem hm, cpt_snoc, if_neg, ← h.low, List.take_succ_eq_append_getElem (by simp; omega)]
    · simp [List.take_set_of_le]
    · rw [List.getLast?_eq_getElem?, List.length_take, Nat.min_eq_left (by omega), List.getElem?_take_of_lt (by omega), List.getElem?_eq_getElem (by omega)]
      intro e
      injection e with e
      exact he e.symm
  · rw [List.getElem_set_ne (by omega)]
    exact h.high j hj (by simpa using hj') (by omega)

theorem CInv.start {l : List (Int × Int)} {k : Nat} (hk : k < l.length) (hk0 : 0 < k) (hall : ∀ j (h : j + 1 < l.length), j + 1 < k → l[j + 1] ≠ l[j]) (he : l[k] = l[k - 1]) : CInv l (k + 1) k l := by
  refine ⟨rfl, Nat.le_refl _, ?_, fun _ _ _ _ => rfl⟩
  rw [List.take_succ_eq_append_getElem hk, cpt_snoc, if_pos]
  · rw [cpt_same]
    intro j hj
    simp at hj
    simp only [List.getElem_take]
    exact hall j (by omega) (by omega)
  · rw [List.getLast?_eq_getElem?, List.length_take, Nat.min_eq_left (by omega), List.getElem?_take_of_lt (by omega), List.getElem?_eq_getElem (by omega), he]
end Go.Proofs.YtldlmkfigjicgaaGreatDoor
/- slices.Compact at Dot: the walk. -/
namespace Go.Proofs.YtldlmkfigjicgaaGreatDoor
set_option linter.unusedVariables false
open Go.ChangeShapes Go.WideShapes Go.ChangeAt Go.RowKit

theorem zeros_dot (n : Nat) : (Builtin.zeroCells (Value.agg #[.int .i64 0, .int .i64 0]).cells n).toList.length = n * 2 ∧ ∀ u ∈ (Builtin.zeroCells (Value.agg #[.int .i64 0, .int .i64 0]).cells n).toList, u.oneCell' = true := by
  constructor
  · simp [Builtin.zeroCells, Value.cells]
  · intro u hu
    simp [Builtin.zeroCells, Value.cells] at hu
    obtain ⟨k, hk, rfl⟩ := hu
    rcases Nat.mod_two_eq_zero_or_one k with h | h <;> simp [h] <;> rfl

theorem run_clear_dot (w : World) (ty : TypeId) (b o n c : Nat) (hn : 0 < n)
    (hc : ∀ j, j < n * 2 → (w.cell? ⟨b, o + j, none⟩).isSome = true) (hf : ∀ j, j < n * 2 → w.frozen? ⟨b, o + j, none⟩ = false) :
    (Builtin.clear_ #[24] ty #[.slice (some ⟨b, o, none⟩) n c]).run Tryz.prog w = .ok (.tuple #[]) (w.setCells b o (Builtin.zeroCells (Value.agg #[.int .i64 0, .int .i64 0]).cells n).toList) := by
  have hv : ∀ w, (zeroValue 78).run Tryz.prog w = .ok (.agg #[.int .i64 0, .int .i64 0]) w := Tryz.zeroValue78
  obtain ⟨hz1, hz2⟩ := zeros_dot n
  generalize hvs : (Builtin.zeroCells (Value.agg #[.int .i64 0, .int .i64 0]).cells n).toList = vs at *
  have hst := run_storeCells_cells (P := Tryz.prog) b o vs 0 w (by rw [hz1]; simpa using hc) (by rw [hz1]; simpa using hf) hz2
  simp only [Nat.add_zero] at hst
  obtain ⟨m, rfl⟩ : ∃ m, n = m + 1 := ⟨n - 1, by omega⟩
  simp [Builtin.clear_, run_underlying Tryz.underlying24, hv, hvs, hst]
end Go.Proofs.YtldlmkfigjicgaaGreatDoor
