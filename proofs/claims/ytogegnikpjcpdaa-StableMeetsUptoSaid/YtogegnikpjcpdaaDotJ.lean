/- The sort over a row of dots that the call owns: the row holds a permutation, in order; all else stands. -/
import Derived.Test.YtogegnikpjcpdaaDotI
import Derived.Shelf.SlSortCmp.NoneTotal
namespace Go.Proofs.Ytogegnikpjcpdaa
set_option linter.unusedVariables false
open Go.ChangeShapes Go.WideShapes Go.ChangeAt Go.RowKit
open Go.Shelf Go.Lib
open Go.Sort (grow SWO PermIn SortedIn alloc_eq_grow grow_grow drew_grow HoldsK flatK putRow putCells mapBlock Holds)

theorem dcells_flat (l : List (Int × Int)) : (dcells l).toArray = flatK encD 2 l.toArray := by
  apply Array.ext
  · rw [List.size_toArray, dcells_len, Sort.size_flatK]; simp; omega
  · intro i h1 h2
    have hi' : i < (dcells l).length := by rw [List.size_toArray] at h1; exact h1
    have hi : i < 2 * l.length := by rw [dcells_len] at hi'; exact hi'
    have hk : i / 2 < l.length := by omega
    obtain ⟨g0, g1⟩ := dcells_get l (i / 2) hk
    have e := Sort.get_flatK encD 2 l.toArray i (by simp; omega)
    rw [getElem!_pos _ i h2] at e
    rw [e]
    have hl : l.toArray[i / 2]! = l[i / 2] := by simp [hk]
    rw [hl]
    rcases Nat.mod_two_eq_zero_or_one i with h | h
    · rw [h]
      have hi2 : i / 2 * 2 = i := by omega
      rw [hi2] at g0
      have : (dcells l)[i]? = some ((dcells l)[i]'hi') := List.getElem?_eq_getElem _
      rw [this] at g0
      injection g0
    · rw [h]
      have hi2 : i / 2 * 2 + 1 = i := by omega
      rw [hi2] at g1
      have : (dcells l)[i]? = some ((dcells l)[i]'hi') := List.getElem?_eq_getElem _
      rw [this] at g1
      injection g1

def dotLe (x y : Int × Int) : Bool := !before y x
theorem dotLe_eq : (fun x y : Int × Int => !(ltOf dotCf) y x) = dotLe := by
  funext x y
  rw [ltOf_dot, dotLe]

theorem sort_total (blk off cap : Nat) (l : List (Int × Int)) (w : World) (hH : HoldsK encD 2 w blk off l.toArray) (hblk : blk < w.heap.size) (hsz : l.length < 4611686018427387904) :
    Calls Try.prog 71 #[.slice (some ⟨blk, off, none⟩) l.length cap, .func (.func 66) #[] #[]] w fun e w' => e = .returned (.tuple #[]) ∧ ∃ n os, w' = sortWorldK encD 2 w blk off n (l.mergeSort dotLe).toArray os := by
  have H := AnyQ.slices_SortFunc_total Try.sortDot 2 Try.isAgg27 Try.sizeOf27 encD (fun _ => rfl) (fun x v hv => by simp [encD] at hv; rcases hv with rfl | rfl <;> rfl) dotCf swo_dot 66 #[] blk off cap l.toArray w enters_order (cmpLays_dot blk off l.toArray.size w) hH hblk (by simpa using hsz) (fun x y h1 h2 => by
    rw [ltOf_dot] at h1 h2
    ext <;> (simp [before] at h1 h2; omega))
  rw [dotLe_eq] at H
  simp at H
  exact H

theorem take_eq_get {cur : Array Value} {n : Nat} {xs : List Value} (h : cur.toList.take n = xs) {j : Nat} (hj : j < xs.length) : cur[j]? = xs[j]? := by
  subst h
  rw [List.getElem?_take_of_lt (by simp at hj; omega)]
  simp

theorem holdsK_own {w : World} {B n cap g : Nat} {l : List (Int × Int)} {cur : Array Value} {T : TypeId} (hg : w.heap[g]? = some (.cells cur T (0, 0))) (hc : cur.toList.take (l.length * 2) = dcells l) : HoldsK encD 2 w g 0 l.toArray := by
  intro j hj
  rw [← dcells_flat] at hj ⊢
  have hj' : j < (dcells l).length := by simpa using hj
  have e := take_eq_get hc hj'
  have e2 : (dcells l).toArray[j]! = (dcells l)[j] := by
    rw [getElem!_pos _ j hj]; simp
  rw [e2]
  constructor
  · rw [Nat.zero_add, cell_of_row w g j cur T (0, 0) hg, e, List.getElem?_eq_getElem hj']; rfl
  · simp [World.frozen?, hg]

theorem sorted_world {w : World} {B cap g n : Nat} {l l' : List (Int × Int)} {cur : Array Value} {T : TypeId} {os : Array Obj} (hb : B ≤ g) (hg : w.heap[g]? = some (.cells cur T (0, 0))) (hcap : l.length ≤ cap) (hm : cap ≤ maxLen) (hs : cur.size = cap * 2)
    (hlen : l'.length = l.length) :
    (sortWorldK encD 2 w g 0 n l'.toArray os).ownsRow B T 2 (.slice (some ⟨g, 0, none⟩) l.length cap) l.length (dcells l') ∧ w.grownBy (sortWorldK encD 2 w g 0 n l'.toArray os) (some g) := by
  have hlt : g < w.heap.size := by
    rcases Nat.lt_or_ge g w.heap.size with h | h
    · exact h
    · rw [Array.getElem?_eq_none h] at hg; cases hg
  have hnew : (sortWorldK encD 2 w g 0 n l'.toArray os).heap[g]? = some (.cells (putCells id 0 (flatK encD 2 l'.toArray) cur) T (0, 0)) := by
    unfold sortWorldK grow Sort.putRowK putRow mapBlock Sort.ahead
    simp only [Array.getElem?_append, Array.size_modify, hlt, if_true, Array.getElem?_modify, hg, Option.map_some]
    rfl
  refine ⟨⟨by rw [dcells_len]; omega, .inr ⟨g, cap, _, rfl, hb, hnew, hcap, hm, by simp [putCells, hs], ?_⟩⟩, ?_⟩
  · rw [← dcells_flat]
    apply List.ext_getElem?
    intro j
    by_cases hj : j < (dcells l').length
    · have hj2 : j < l.length * 2 := by rw [dcells_len] at hj; omega
      have hjc : j < cur.size := by rw [hs]; omega
      rw [List.getElem?_take_of_lt hj2]
      simp only [putCells, Array.toList_mapIdx, List.getElem?_mapIdx]
      have : cur.toList[j]? = some cur.toList[j] := List.getElem?_eq_getElem (by simpa using hjc)
      rw [this]
      simp only [Option.map_some, Nat.zero_le, Nat.zero_add, List.size_toArray, hj, and_self, if_true, Nat.sub_zero, id]
      rw [getElem!_pos _ j (by simpa using hj), List.getElem?_eq_getElem hj]
      simp
    · rw [List.getElem?_eq_none (Nat.le_of_not_lt hj), List.getElem?_eq_none]
      rw [List.length_take]
      rw [dcells_len] at hj
      omega
  · refine ⟨rfl, rfl, rfl, ?_, ?_⟩
    · unfold sortWorldK grow Sort.putRowK putRow mapBlock Sort.ahead
      simp
    · intro k hk hne
      have hne' : g ≠ k := fun e => hne (by rw [e])
      unfold sortWorldK grow Sort.putRowK putRow mapBlock Sort.ahead
      simp [Array.getElem?_append, hk, Array.getElem_modify, hne']

/-- The sort over a row that the call owns (nil too). -/
theorem sort_own {B : Nat} {v : Value} (l : List (Int × Int)) (w : World) (hown : w.ownsRow B 27 2 v l.length (dcells l)) (hl : l.length ≤ 140737488355328) :
    Calls Try.prog 71 #[v, .func (.func 66) #[] #[]] w fun e w' => e = .returned (.tuple #[]) ∧ w'.ownsRow B 27 2 v l.length (dcells (l.mergeSort dotLe)) ∧ w.grownBy w' v.ownBlock := by
  rcases hown.2 with ⟨rfl, h0⟩ | ⟨g, cap, cur, rfl, hb, hg, hcap, hm, hs, ht⟩
  · have hl0 : l = [] := List.eq_nil_of_length_eq_zero h0
    subst hl0
    refine (AnyF.slices_SortFunc_none Try.sortDot none 0 _ w).mono fun e w' ⟨he, hw⟩ => ?_
    subst hw
    refine ⟨he, by simpa using hown, ⟨rfl, rfl, rfl, Nat.le_refl _, fun _ _ _ => rfl⟩⟩
  · have hlt : g < w.heap.size := by
      rcases Nat.lt_or_ge g w.heap.size with h | h
      · exact h
      · rw [Array.getElem?_eq_none h] at hg; cases hg
    refine (sort_total g 0 cap l w (holdsK_own (B := B) (n := 0) (cap := cap) hg ht) hlt (by omega)).mono fun e w' ⟨he, n, os, hw⟩ => ?_
    subst hw
    have := sorted_world (l' := l.mergeSort dotLe) (os := os) (n := n) hb hg hcap hm hs (by simp)
    exact ⟨he, this.1, this.2⟩
end Go.Proofs.Ytogegnikpjcpdaa
