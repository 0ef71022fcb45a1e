/- ShelfI, Ints, Vals, ZOf -/
import Derived.Shelf.Sort.Plain
import Derived.Shelf.Slices.CompactI
import Derived.Shelf.Slices.In.SortNone
import Derived.Ground.NamesProg
import Derived.Ground.Names2Prog
import Derived.Test.YtldlmkfigjicgaaGreatDoorRows
import Derived.Test.YtldlmkfigjicgaaGreatDoorCk08
import Derived.Test.YtldlmkfigjicgaaGreatDoorCk03
/-
  DERIVED: THE SHELF's CONTRACTS AT THIS DUMP, IN PLAIN WORDS (tools/lay-plain.mjs out of 'YtldlmkfigjicgaaGreatDoorShelfI.lean', which tools/lay-shelf.mjs wrote): THE SAME DECLARATIONS UNDER THE SAME NAMES: 'import', 'namespace', 'open', 'def', 'theorem' AND NOTHING ELSE: no command of the shelf's: FOR A HAND-IN. Each laying: the table of numbers ('.._ren') and one theorem, a field a fact of the dump's own or the kernel's comparison; each contract: ONE APPLICATION.
-/
namespace Go.Proofs
open Go.Shelf
def Tryz.lays189_ren : Go.Shelf.Ren := ⟨fun | 189 => 79 | 125 => 102 | 257 => 101 | 128 => 128 | 129 => 129 | 294 => 119 | 295 => 120 | 296 => 121 | 297 => 122 | 298 => 123 | 299 => 124 | 216 => 125 | 300 => 126 | 301 => 127 | 328 => 148 | 329 => 149 | 330 => 150 | 331 => 151 | 332 => 152 | 215 => 103 | 343 => 167 | n => n, fun | 28 => 30 | 3 => 3 | 46 => 140 | 0 => 0 | 51 => 163 | 53 => 165 | 4 => 4 | 183 => 156 | 182 => 155 | 131 => 160 | 5 => 5 | 9 => 9 | 218 => 177 | 222 => 181 | 228 => 191 | 229 => 192 | n => n, fun | n => n⟩
theorem Tryz.lays189 : Go.Proofs.Lays.n189 Tryz.prog Tryz.lays189_ren := {
  mixed := by kernel_rfl
  f125 := Tryz.func102.trans (congrArg some (by kernel_rfl))
  f128 := Tryz.func128.trans (congrArg some (by kernel_rfl))
  f129 := Tryz.func129.trans (congrArg some (by kernel_rfl))
  f189 := Tryz.func79.trans (congrArg some (by kernel_rfl))
  f215 := Tryz.func103.trans (congrArg some (by kernel_rfl))
  f216 := Tryz.func125.trans (congrArg some (by kernel_rfl))
  f257 := Tryz.func101.trans (congrArg some (by kernel_rfl))
  f294 := Tryz.func119.trans (congrArg some (by kernel_rfl))
  f295 := Tryz.func120.trans (congrArg some (by kernel_rfl))
  f296 := Tryz.func121.trans (congrArg some (by kernel_rfl))
  f297 := Tryz.func122.trans (congrArg some (by kernel_rfl))
  f298 := Tryz.func123.trans (congrArg some (by kernel_rfl))
  f299 := Tryz.func124.trans (congrArg some (by kernel_rfl))
  f300 := Tryz.func126.trans (congrArg some (by kernel_rfl))
  f301 := Tryz.func127.trans (congrArg some (by kernel_rfl))
  f328 := Tryz.func148.trans (congrArg some (by kernel_rfl))
  f329 := Tryz.func149.trans (congrArg some (by kernel_rfl))
  f330 := Tryz.func150.trans (congrArg some (by kernel_rfl))
  f331 := Tryz.func151.trans (congrArg some (by kernel_rfl))
  f332 := Tryz.func152.trans (congrArg some (by kernel_rfl))
  f343 := Tryz.func167.trans (congrArg some (by kernel_rfl))
  t0 := Tryz.underlying0
  a0 := Tryz.isAgg0
  z0 := Tryz.sizeOf0
  v0 := Tryz.zeroValue0
  t3 := Tryz.underlying3
  a3 := Tryz.isAgg3
  z3 := Tryz.sizeOf3
  v3 := Tryz.zeroValue3
  t4 := Tryz.underlying4
  a4 := Tryz.isAgg4
  z4 := Tryz.sizeOf4
  v4 := Tryz.zeroValue4
  t5 := Tryz.underlying5
  a5 := Tryz.isAgg5
  z5 := Tryz.sizeOf5
  v5 := Tryz.zeroValue5
  t9 := Tryz.underlying9
  a9 := Tryz.isAgg9
  z9 := Tryz.sizeOf9
  v9 := Tryz.zeroValue9
  t28 := Tryz.underlying30
  a28 := Tryz.isAgg30
  z28 := Tryz.sizeOf30
  v28 := Tryz.zeroValue30
  t46 := Tryz.underlying140
  a46 := Tryz.isAgg140
  z46 := Tryz.sizeOf140
  v46 := Tryz.zeroValue140
  t51 := Tryz.underlying163
  a51 := Tryz.isAgg163
  z51 := Tryz.sizeOf163
  v51 := Tryz.zeroValue163
  t53 := Tryz.underlying165
  a53 := Tryz.isAgg165
  z53 := Tryz.sizeOf165
  v53 := Tryz.zeroValue165
  t131 := Tryz.underlying160
  a131 := Tryz.isAgg160
  z131 := Tryz.sizeOf160
  v131 := Tryz.zeroValue160
  t182 := Tryz.underlying155
  a182 := Tryz.isAgg155
  z182 := Tryz.sizeOf155
  v182 := Tryz.zeroValue155
  t183 := Tryz.underlying156
  a183 := Tryz.isAgg156
  z183 := Tryz.sizeOf156
  v183 := Tryz.zeroValue156
  t218 := Tryz.underlying177
  a218 := Tryz.isAgg177
  z218 := Tryz.sizeOf177
  v218 := Tryz.zeroValue177
  t222 := Tryz.underlying181
  a222 := Tryz.isAgg181
  z222 := Tryz.sizeOf181
  v222 := Tryz.zeroValue181
  t228 := Tryz.underlying191
  a228 := Tryz.isAgg191
  z228 := Tryz.sizeOf191
  v228 := Tryz.zeroValue191
  t229 := Tryz.underlying192
  a229 := Tryz.isAgg192
  z229 := Tryz.sizeOf192
  v229 := Tryz.zeroValue192 }
open Go.Sort Go.RowKit in
theorem Tryz.slices_Sort_int (blk off cap : Nat) (zs : List Int) (w : World) (hH : Holds (Value.int .i64) w blk off zs.toArray) (hblk : blk < w.heap.size) (hsz : zs.length < 4611686018427387904) :
    Calls Tryz.prog 79 #[.slice (some ⟨blk, off, none⟩) zs.length cap] w fun e w' =>
      e = .returned (.tuple #[]) ∧ ∃ n os, w' = grow (putRow (Value.int .i64) (Sort.ahead w n) blk off (zs.mergeSort fun x y => decide (x ≤ y)).toArray) os := Any.slices_Sort_int Tryz.lays189 blk off cap zs w hH hblk hsz
def Tryz.laysNm220_ren : Go.Shelf.Ren := ⟨fun | 20 => 80 | n => n, fun | 22 => 30 | 3 => 3 | 4 => 4 | 0 => 0 | n => n, fun | n => n⟩
theorem Tryz.laysNm220 : Go.Proofs.Lays2.n20 Tryz.prog Tryz.laysNm220_ren := {
  mixed := by kernel_rfl
  f20 := Tryz.func80.trans (congrArg some (by kernel_rfl))
  t0 := Tryz.underlying0
  a0 := Tryz.isAgg0
  z0 := Tryz.sizeOf0
  v0 := Tryz.zeroValue0
  t3 := Tryz.underlying3
  a3 := Tryz.isAgg3
  z3 := Tryz.sizeOf3
  v3 := Tryz.zeroValue3
  t4 := Tryz.underlying4
  a4 := Tryz.isAgg4
  z4 := Tryz.sizeOf4
  v4 := Tryz.zeroValue4
  t22 := Tryz.underlying30
  a22 := Tryz.isAgg30
  z22 := Tryz.sizeOf30
  v22 := Tryz.zeroValue30
  i3 := by kernel_rfl }
open Go.RowKit Go.Lib Go.Sort in
/-- slices.Compact at []int, over an array: the library's two loops are walked. (LAID: no walk: one application.) -/
theorem Tryz.slices_Compact_int_arr (blk off cap : Nat) (d : Array Int) (w : World) (hH : Holds encI w blk off d) (hsz : d.size ≤ 9223372036854775807) (hcap : d.size ≤ cap) :
    Calls Tryz.prog 80 #[.slice (some ⟨blk, off, none⟩) d.size cap] w fun e w' => e = .returned (.slice (some ⟨blk, off, none⟩) (compactUpTo d d.size).length cap) ∧ ∃ q, w' = putRow encI (Sort.ahead w q) blk off (compactUpTo d d.size ++ List.replicate (d.size - (compactUpTo d d.size).length) 0).toArray := Any.slices_Compact_int_arr Tryz.laysNm220 blk off cap d w hH hsz hcap
open Go.RowKit Go.Lib Go.Sort in
/-- slices.Compact at []int: "Compact replaces consecutive runs of equal elements with a single copy. This is like the uniq command found on Unix. Compact modifies the contents of the slice s and returns the modified slice, which may have a smaller length. Compact zeroes the elements between the new length and the original length. The result preserves the nilness of s.": IT RETURNS THE SLICE CUT TO 'Lib.compact zs'; ITS CELLS HOLD 'Lib.compact zs', THEN ZERO VALUES up to the old length; all else is as it was, but for the count of draws. IN THE WORDS OF slices.Sort's CONTRACT ('Holds', 'putRow'): so the everyday 'slices.Sort(xs); xs = slices.Compact(xs)' goes from the one contract to the other. It asks 'zs.length ≤ cap' (every slice's: the reslicing 's[:k]' looks at it). Length 0, nil: '.._empty'. (LAID: no walk: one application.) -/
theorem Tryz.slices_Compact_int (blk off cap : Nat) (zs : List Int) (w : World) (hH : Holds (Value.int .i64) w blk off zs.toArray) (hsz : zs.length ≤ 9223372036854775807) (hcap : zs.length ≤ cap) :
    Calls Tryz.prog 80 #[.slice (some ⟨blk, off, none⟩) zs.length cap] w fun e w' => e = .returned (.slice (some ⟨blk, off, none⟩) (Lib.compact zs).length cap) ∧ ∃ q, w' = putRow (Value.int .i64) (Sort.ahead w q) blk off (Lib.compact zs ++ List.replicate (zs.length - (Lib.compact zs).length) 0).toArray := Any.slices_Compact_int Tryz.laysNm220 blk off cap zs w hH hsz hcap
open Go.RowKit Go.Lib Go.Sort in
/-- The same at a slice of length 0, a nil one too: it comes back as it is. (LAID: no walk: one application.) -/
theorem Tryz.slices_Compact_int_empty (a : Option Addr) (cap : Nat) (w : World) :
    Calls Tryz.prog 80 #[.slice a 0 cap] w fun e w' => e = .returned (.slice a 0 cap) ∧ w' = w := Any.slices_Compact_int_empty Tryz.laysNm220 a cap w
open Go.RowKit Go.Sort in
/-- .. and plain. (LAID: no walk: one application.) -/
theorem Tryz.slices_Sort_int_none (p : Option Addr) (cap : Nat) (w : World) :
    Calls Tryz.prog 79 #[.slice p 0 cap] w fun e w' => e = .returned (.tuple #[]) ∧ w' = w := Any.slices_Sort_int_none Tryz.lays189 p cap w
end Go.Proofs
/- Lists of ints in memory; slices.Equal, Sort, Compact at int over rows. -/
namespace Go.Proofs.YtldlmkfigjicgaaGreatDoor
set_option linter.unusedVariables false
open Go.ChangeShapes Go.WideShapes Go.ChangeAt Go.RowKit Go.Sort

abbrev icells (l : List Int) : List Value := l.map (Value.int .i64)
theorem icells_one (l : List Int) : ∀ u ∈ icells l, u.oneCell' = true := by
  intro u hu
  obtain ⟨x, -, rfl⟩ := List.mem_map.1 hu
  rfl
theorem Row.int {w : World} {B : Nat} {A : Option Addr} {l : List Int} (h : Row w B A (icells l)) {k : Nat} (hk : k < l.length) :
    ∃ b off, A = some ⟨b, off, none⟩ ∧ b < B ∧ w.cell? ⟨b, off + k, none⟩ = some (.int .i64 l[k]) := by
  obtain ⟨b, off, h1, h2, h3⟩ := h.at_ (show 0 < (icells l).length by simp; omega)
  exact ⟨b, off, h1, h2, h3 k _ (by simp [hk])⟩
theorem info_int : (Tryz.prog.info? 3).map (fun i => (i.zero, i.size, i.bytes)) = some (some (.int .i64 0), 1, 8) := by kernel_rfl
theorem newsI (w : World) (x : Int) (T : TypeId) (H : Nat) (hH : w.heap.size = H) : ∀ j u, (icells [x])[j]? = some u → (w.alloc (.cells #[.int .i64 x] T)).cell? ((⟨H, 0, none⟩ : Addr).add j) = some u := by
  intro j u hu
  subst hH
  rw [add_none, Nat.zero_add, cell_of_row _ _ j _ _ _ (heap_alloc_new w _)]
  simpa using hu

set_option maxHeartbeats 400000 in
set_option maxRecDepth 100000 in
theorem equalI_any (l m : List Int) (A B : Option Addr) (c e : Nat) (w : World) (hr : Row w w.heap.size A (icells l)) (hs : Row w w.heap.size B (icells m)) (hl : l.length ≤ 9223372036854775807) (hm : m.length ≤ 9223372036854775807) :
    Calls Tryz.prog 53 #[.slice A l.length c, .slice B m.length e] w fun e w' => e = .returned (.bool (decide (l = m))) ∧ Below w.heap.size w w' := by
  have HR := hid hr
  have HS := hid hs
  clear hr hs
  by_cases hlen : l.length = m.length
  · have hne : ((l.length : Int) != (m.length : Int)) = false := by simp [hlen]
    have HL := hid hlen
    clear hlen
    go_enter Tryz.func53, Tryz.ntmps53
    go_wp2
    go_loopw [13] (fun i wr => (∃ k : Nat, k ≤ l.length ∧ i = .int .i64 k ∧ ∀ j (h : j < l.length) (h' : j < m.length), j < k → l[j] = m[j]) ∧ Below w.heap.size w wr) (fun i _ => l.length - (intOf i).toNat)
    case atStart => exact ⟨⟨0, by omega, rfl, fun j _ _ h => absurd h (by omega)⟩, Below.refl _ _⟩
    case round =>
      obtain ⟨⟨k, hk, rfl, hno⟩, hbw⟩ := hrel
      by_cases hlt : k < l.length
      · have hlt' : k < m.length := by have := HL.out; omega
        obtain ⟨b, off, rfl, hb, h0⟩ := (HR.out.below hbw (Nat.le_refl _)).int hlt
        obtain ⟨b', off', rfl, hb', h0'⟩ := (HS.out.below hbw (Nat.le_refl _)).int hlt'
        have HN := hid hno
        have HB := hid hbw
        clear hno hbw
        generalize hd : l[k] = d at *
        generalize hd' : m[k] = d' at *
        have HD := hid hd
        have HD' := hid hd'
        clear hd hd'
        by_cases hq : d = d'
        · have q : (d != d') = false := by simp [hq]
          have HQ := hid hq
          clear hq
          go_wp2
          refine wp_region_quiet_lit (by kernel_rfl) (by kernel_rfl) ?_
          repeat (any_goals ((with_reducible refine wpQuiet_step (fun K hK => ?_)); go_simp; first | (with_reducible refine hK _ ?_; clear hK K) | ((with_reducible apply Exists.intro); (with_reducible refine ⟨fun _ => ?_, hK _ ?_⟩); (fail); clear hK K) | ((with_reducible refine (if_neg ?_).mpr (hK _ ?_)); (decide); clear hK K) | (split <;> (with_reducible refine hK _ ?_; clear hK K))))
          all_goals ((with_reducible refine wpQuiet_nil ?_); intro _ hw'; obtain ⟨nq, hw''⟩ := hw'; subst hw'')
          go_wp2
          go_roundw
          case rel =>
            refine ⟨⟨k + 1, by omega, by go_num, fun j h h' hj => ?_⟩, below_drewN HB.out _⟩
            by_cases e : j = k
            · subst e; rw [HD.out, HD'.out]; exact HQ.out
            · exact HN.out j h h' (by omega)
          case measure => simp [intOf]; omega
        · have q : (d != d') = true := by simp [hq]
          have HQ := hid hq
          clear hq
          go_wp2
          refine wp_region_quiet_lit (by kernel_rfl) (by kernel_rfl) ?_
          repeat (any_goals ((with_reducible refine wpQuiet_step (fun K hK => ?_)); go_simp; first | (with_reducible refine hK _ ?_; clear hK K) | ((with_reducible apply Exists.intro); (with_reducible refine ⟨fun _ => ?_, hK _ ?_⟩); (fail); clear hK K) | ((with_reducible refine (if_neg ?_).mpr (hK _ ?_)); (decide); clear hK K) | (split <;> (with_reducible refine hK _ ?_; clear hK K))))
          all_goals ((with_reducible refine wpQuiet_nil ?_); intro _ hw'; obtain ⟨nq, hw''⟩ := hw'; subst hw'')
          go_wp2
          go_ret
          refine ⟨ret_bool ?_, below_drewN HB.out _⟩
          symm
          rw [decide_eq_false_iff_not]
          rintro rfl
          exact HQ.out (HD.out.symm.trans HD'.out)
      · go_wp2
        go_ret
        refine ⟨ret_bool ?_, hbw⟩
        have : l = m := List.ext_getElem HL.out fun j h h' => hno j h h' (by omega)
        simp [this]
  · have hne : ((l.length : Int) != (m.length : Int)) = true := by simp; omega
    go_enter Tryz.func53, Tryz.ntmps53
    go_wp2
    go_ret
    exact ⟨ret_bool (by symm; simp; rintro rfl; exact hlen rfl), Below.refl _ _⟩

theorem holdsI {w : World} {g : Nat} {l : List Int} {cur : Array Value} {T : TypeId} (hg : w.heap[g]? = some (.cells cur T (0, 0))) (hc : cur.toList.take l.length = icells l) : Holds (Value.int .i64) w g 0 l.toArray := by
  intro j hj
  have hj' : j < l.length := by simpa using hj
  have e := take_eq_get hc (j := j) (by simpa using hj')
  rw [getElem!_pos _ j hj]
  constructor
  · rw [Nat.zero_add, cell_of_row w g j cur T (0, 0) hg, e]; simp [hj']
  · simp [World.frozen?, hg]

/-- A row of ints laid anew in the block that the call owns. -/
theorem put_world {w : World} {B cap g n : Nat} {l l' : List Int} {cur : Array Value} {T : TypeId} {os : Array Obj} (hb : B ≤ g) (hg : w.heap[g]? = some (.cells cur T (0, 0))) (hcap : l.length ≤ cap) (hm : cap ≤ maxLen) (hs : cur.size = cap * 1)
    (hlen : l'.length = l.length) {m : Nat} (hml : m ≤ l'.length) :
    (grow (putRow (Value.int .i64) (Sort.ahead w n) g 0 l'.toArray) os).ownsRow B T 1 (.slice (some ⟨g, 0, none⟩) m cap) m (icells (l'.take m)) ∧ w.grownBy (grow (putRow (Value.int .i64) (Sort.ahead w n) g 0 l'.toArray) os) (some g) := by
  have hlt : g < w.heap.size := by
    rcases Nat.lt_or_ge g w.heap.size with h | h
    · exact h
    · rw [Array.getElem?_eq_none h] at hg; cases hg
  have hnew : (grow (putRow (Value.int .i64) (Sort.ahead w n) g 0 l'.toArray) os).heap[g]? = some (.cells (putCells (Value.int .i64) 0 l'.toArray cur) T (0, 0)) := by
    unfold grow putRow mapBlock Sort.ahead
    simp only [Array.getElem?_append, Array.size_modify, hlt, if_true, Array.getElem?_modify, hg, Option.map_some]
    rfl
  refine ⟨⟨by simp [hml], .inr ⟨g, cap, _, rfl, hb, hnew, by omega, hm, by simp [putCells, hs], ?_⟩⟩, ?_⟩
  · apply List.ext_getElem?
    intro j
    by_cases hj : j < m
    · have hjc : j < cur.size := by rw [hs]; omega
      rw [List.getElem?_take_of_lt (by omega)]
      simp only [putCells, Array.toList_mapIdx, List.getElem?_mapIdx]
      have : cur.toList[j]? = some cur.toList[j] := List.getElem?_eq_getElem (by simpa using hjc)
      rw [this]
      have hj' : j < l'.length := by omega
      simp only [Option.map_some, Nat.zero_le, Nat.zero_add, List.size_toArray, hj', and_self, if_true, Nat.sub_zero]
      rw [getElem!_pos _ j (by simpa using hj')]
      simp [List.getElem?_take_of_lt hj, hj']
    · rw [List.getElem?_eq_none (by simp; omega), List.getElem?_eq_none (by simp; omega)]
  · refine ⟨rfl, rfl, rfl, ?_, ?_⟩
    · unfold grow putRow mapBlock Sort.ahead
      simp
    · intro k hk hne
      have hne' : g ≠ k := fun e => hne (by rw [e])
      unfold grow putRow mapBlock Sort.ahead
      simp [Array.getElem?_append, hk, Array.getElem_modify, hne']

theorem grow_none (W : World) : grow W #[] = W := by
  unfold grow
  rw [Array.append_empty]

def isort (l : List Int) : List Int := l.mergeSort fun x y => decide (x ≤ y)
theorem isort_len (l : List Int) : (isort l).length = l.length := by unfold isort; simp

theorem sortI_own {B : Nat} {v : Value} (l : List Int) (w : World) (hown : w.ownsRow B 3 1 v l.length (icells l)) (hl : l.length ≤ 140737488355328) :
    Calls Tryz.prog 79 #[v] w fun e w' => e = .returned (.tuple #[]) ∧ w'.ownsRow B 3 1 v l.length (icells (isort l)) ∧ w.grownBy w' v.ownBlock := by
  rcases hown.2 with ⟨rfl, h0⟩ | ⟨g, cap, cur, rfl, hb, hg, hcap, hm, hs, ht⟩
  · have hl0 : l = [] := List.eq_nil_of_length_eq_zero h0
    subst hl0
    refine (Tryz.slices_Sort_int_none none 0 w).mono fun e w' ⟨he, hw⟩ => ?_
    subst hw
    refine ⟨he, by simpa [isort] using hown, ⟨rfl, rfl, rfl, Nat.le_refl _, fun _ _ _ => rfl⟩⟩
  · have hlt : g < w.heap.size := by
      rcases Nat.lt_or_ge g w.heap.size with h | h
      · exact h
      · rw [Array.getElem?_eq_none h] at hg; cases hg
    refine (Tryz.slices_Sort_int g 0 cap l w (holdsI hg (by simpa using ht)) hlt (by omega)).mono fun e w' ⟨he, n, os, hw⟩ => ?_
    subst hw
    have := put_world (l := l) (l' := isort l) (os := os) (n := n) hb hg hcap hm hs (isort_len l) (m := l.length) (by rw [isort_len]; exact Nat.le_refl _)
    rw [List.take_of_length_le (by rw [isort_len]; exact Nat.le_refl _)] at this
    exact ⟨he, this.1, this.2⟩

theorem compact_len (l : List Int) : (Lib.compact l).length ≤ l.length := by
  unfold Lib.compact Lib.compactUpTo
  rw [List.length_map]
  refine Nat.le_trans (List.length_filter_le _ _) (by simp)

theorem compactI_own {B : Nat} {v : Value} (l : List Int) (w : World) (hown : w.ownsRow B 3 1 v l.length (icells l)) (hl : l.length ≤ 140737488355328) :
    Calls Tryz.prog 80 #[v] w fun e w' => ∃ v', e = .returned v' ∧ w'.ownsRow B 3 1 v' (Lib.compact l).length (icells (Lib.compact l)) ∧ w.grownBy w' v.ownBlock ∧ v'.ownBlock = v.ownBlock := by
  rcases hown.2 with ⟨rfl, h0⟩ | ⟨g, cap, cur, rfl, hb, hg, hcap, hm, hs, ht⟩
  · have hl0 : l = [] := List.eq_nil_of_length_eq_zero h0
    subst hl0
    refine (Tryz.slices_Compact_int_empty none 0 w).mono fun e w' ⟨he, hw⟩ => ?_
    subst hw
    exact ⟨_, he, by simpa [Lib.compact, Lib.compactUpTo] using hown, ⟨rfl, rfl, rfl, Nat.le_refl _, fun _ _ _ => rfl⟩, rfl⟩
  · refine (Tryz.slices_Compact_int g 0 cap l w (holdsI hg (by simpa using ht)) (by omega) hcap).mono fun e w' ⟨he, q, hw⟩ => ?_
    subst hw
    have hc := compact_len l
    have := put_world (l := l) (l' := Lib.compact l ++ List.replicate (l.length - (Lib.compact l).length) 0) (os := #[]) (n := q) hb hg hcap hm hs (by simp; omega) (m := (Lib.compact l).length) (by simp)
    rw [List.take_append_of_le_length (Nat.le_refl _), List.take_length] at this
    rw [grow_none] at this
    exact ⟨_, he, this.1, this.2, rfl⟩
end Go.Proofs.YtldlmkfigjicgaaGreatDoor
/- table.Values, table.Keys. -/
namespace Go.Proofs.YtldlmkfigjicgaaGreatDoor
set_option linter.unusedVariables false
open Go.ChangeShapes Go.WideShapes Go.ChangeAt Go.RowKit

def IntsPost (l : List Int) (w : World) (e : Ending) (w' : World) : Prop :=
  ∃ v, e = .returned v ∧ w'.ownsRow w.heap.size 3 1 v l.length (icells l) ∧ Below w.heap.size w w'
def atKC (key col : Int) (x : Cel) : Bool := x.key == key && x.col == col
def onceI (l : List Int) : List Int := Lib.compact (isort l)
def valsL (t : Tab) (key col : Int) : List Int := onceI ((t.cells.filter (atKC key col)).map Cel.val)
def keysL (t : Tab) : List Int := onceI (t.cells.map Cel.key)
theorem valsL_len (t : Tab) (key col : Int) : (valsL t key col).length ≤ t.cells.length := by
  unfold valsL onceI
  refine Nat.le_trans (compact_len _) ?_
  rw [isort_len, List.length_map]
  exact List.length_filter_le _ _
theorem keysL_len (t : Tab) : (keysL t).length ≤ t.cells.length := by
  unfold keysL onceI
  refine Nat.le_trans (compact_len _) ?_
  rw [isort_len, List.length_map]
  exact Nat.le_refl _
theorem icells_snoc (l : List Int) (x : Int) : icells (l ++ [x]) = icells l ++ icells [x] := by simp

set_option maxHeartbeats 4000000 in
set_option maxRecDepth 100000 in
theorem values_any (t : Tab) (key col : Int) (A : Option Addr) (k : Nat) (B : Option Addr) (m : Nat) (w : World) (rb : Row w w.heap.size B (tcells t.cells)) (lb : t.cells.length ≤ 4398046511104) :
    Calls Tryz.prog 43 #[tval t A k B m, .int .i64 key, .int .i64 col] w (IntsPost (valsL t key col) w) := by
  have RB := hid (fun w1 (hb : Below w.heap.size w w1) => rb.step hb)
  have HV := hid (show valsL t key col = Lib.compact (isort ((t.cells.filter (atKC key col)).map Cel.val)) from rfl)
  obtain ⟨V, hV⟩ : ∃ V, V = valsL t key col := ⟨_, rfl⟩
  rw [← hV] at HV ⊢
  clear rb hV
  obtain ⟨⟨c0, c1, c2, c3, cl⟩, l⟩ := t
  obtain ⟨i1, hi0, hz0, hz1, hz2⟩ := info_parts info_int
  simp only [tval] at *
  go_enter Tryz.func43, Tryz.ntmps43
  go_wp2
  obtain ⟨W2, hW2⟩ : ∃ W2 : World, W2 = w.alloc (.cells #[.int .i64 c0, .int .i64 c1, .int .i64 c2, .int .i64 c3, .slice A cl.length k, .slice B l.length m] 29) := ⟨_, rfl⟩
  rw [← hW2]
  have HB2 := hid (show Below w.heap.size w W2 by rw [hW2]; (repeat' (first | (with_reducible exact Below.refl _ _) | (with_reducible assumption) | (with_reducible refine below_drewN ?_ _) | (with_reducible refine Below.drew ?_) | (with_reducible refine Below.alloc ?_ ?_ _) | (with_reducible refine Below.setCell ?_ ?_ _) | (refine Below.trans ?_ (Below.mono (by assumption) ?_)) | go_size)))
  have hs2 : w.heap.size ≤ W2.heap.size := HB2.out.size
  clear hW2
  go_loopw [7, 13] (fun s7 s13 wr => ∃ i : Nat, i ≤ l.length ∧ s13 = .int .i64 i ∧ wr.ownsRow W2.heap.size 3 1 s7 (((l.take i).filter (atKC key col)).map Cel.val).length (icells (((l.take i).filter (atKC key col)).map Cel.val)) ∧ Below W2.heap.size W2 wr) (fun _ s13 _ => l.length - (intOf s13).toNat)
  case atStart => exact ⟨0, by omega, rfl, by simpa using World.ownsRow_nil _ _ _ _, Below.refl _ _⟩
  case round =>
    obtain ⟨i, hi, rfl, hown, hbw⟩ := hrel
    have hst : ∀ hj : i < l.length, ((l.take (i + 1)).filter (atKC key col)).map Cel.val = ((l.take i).filter (atKC key col)).map Cel.val ++ (if atKC key col l[i] = true then [l[i].val] else []) := by
      intro hj
      rw [List.take_succ_eq_append_getElem hj, List.filter_append, List.map_append, List.filter_cons, List.filter_nil]
      split <;> simp
    have hol : (((l.take i).filter (atKC key col)).map Cel.val).length ≤ 4398046511104 := by
      have := List.length_filter_le (atKC key col) (l.take i)
      rw [List.length_take] at this
      rw [List.length_map]
      omega
    have hfin : ¬ i < l.length → Lib.compact (isort (((l.take i).filter (atKC key col)).map Cel.val)) = V := fun h => by rw [HV.out, List.take_of_length_le (by omega)]
    obtain ⟨O, hO⟩ : ∃ O, O = ((l.take i).filter (atKC key col)).map Cel.val := ⟨_, rfl⟩
    rw [← hO] at hown hst hol hfin
    clear hO
    obtain ⟨A8, c8, rfl⟩ := own_formS hown
    have hB := Below.step' HB2.out hbw
    have HOWN := hid hown
    have HBW := hid hbw
    have HBB := hid hB
    have HFIN := hid hfin
    clear hown hbw hB hfin
    by_cases hlt : i < l.length
    · obtain ⟨b, off, hA, hb, e0, e1, e2, e3, e4⟩ := (RB.out wr HBB.out).cel hlt
      subst hA
      have HST := hid (hst hlt)
      clear hst
      generalize l[i] = x at *
      obtain ⟨⟨d0, d1⟩, ky, co, vl⟩ := x
      simp only at e0 e1 e2 e3 e4
      have hneb : (b = wr.heap.size) = False := by simp; omega
      have hsw := HBW.out.size
      cases q1 : (ky == key)
      · have HQ := hid (show atKC key col ⟨(d0, d1), ky, co, vl⟩ = false by simp only [atKC, q1, Bool.false_and])
        go_wp2
        go_roundw
        case rel => exact ⟨i + 1, by omega, by go_num, by rw [HST.out, HQ.out, if_neg (by simp), List.append_nil]; exact HOWN.out.alloc _, HBW.out.alloc HBW.out.size _⟩
        case measure => simp [intOf]; omega
      · cases q2 : (co == col)
        · have HQ := hid (show atKC key col ⟨(d0, d1), ky, co, vl⟩ = false by simp only [atKC, q1, q2, Bool.and_false])
          go_wp2
          go_roundw
          case rel => exact ⟨i + 1, by omega, by go_num, by rw [HST.out, HQ.out, if_neg (by simp), List.append_nil]; exact HOWN.out.alloc _, HBW.out.alloc HBW.out.size _⟩
          case measure => simp [intOf]; omega
        · have HQ := hid (show atKC key col ⟨(d0, d1), ky, co, vl⟩ = true by simp only [atKC, q1, q2, Bool.and_true])
          go_wp2_with (at_builtin; refine wpList_append_own _ rfl _ _ 30 rfl W2.heap.size 3 i1 _ 1 8 Tryz.underlying30 hi0 hz0 hz1 hz2 rfl (by decide) _ _ _ rfl ((HOWN.out.alloc _).alloc _) ⟨wr.heap.size + 1, 0, none⟩ 1 1 (icells [vl]) rfl rfl (newsI _ vl _ _ (by simp)) (icells_one _) ?_ ?_ ?_ ?_; rotate_right; intro v6 w6 hown6 hg6 _; rotate_left; (simp only [maxLen]; omega); (omega); (simp; omega))
          go_roundw
          case rel =>
            refine ⟨i + 1, by omega, by go_num, ?_, ((HBW.out.alloc HBW.out.size _).alloc (by simp; omega) _).grown hg6 (by simp; omega) (fun g e => (HOWN.out.lt g e).1)⟩
            rw [HST.out, HQ.out, if_pos rfl, icells_snoc]
            simpa using hown6
          case measure => simp [intOf]; omega
    · have hfin := HFIN.out hlt
      have HSO := hid (sortI_own O wr HOWN.out (by omega))
      have HOL := hid (fun g e => (HOWN.out.lt g e).1)
      have hsw := HBW.out.size
      clear hst
      go_wp2_with fail
      refine HSO.out.mono ?_
      rintro e w5 ⟨rfl, hown5, hg5⟩
      have hsl := isort_len O
      have hown5' : w5.ownsRow W2.heap.size 3 1 (.slice A8 O.length c8) (isort O).length (icells (isort O)) := by rw [hsl]; exact hown5
      have HC := hid (compactI_own (isort O) w5 hown5' (by omega))
      have hs5 := hg5.size
      have HB5 := hid (HBB.out.grown hg5 (by omega) (fun g e => by have := HOL.out g e; omega))
      clear hown5 hown5' hg5
      go_wp2_with fail
      refine HC.out.mono ?_
      rintro e w6 ⟨v6, rfl, hown6, hg6, hv6⟩
      have HO6 := hid hown6
      have HG6 := hid hg6
      rw [hfin] at HO6
      have HF := hid hfin
      clear hown6 hg6 hfin hv6
      go_wp2
      go_ret
      exact ⟨v6, rfl, own_baseS HO6.out hs2, HB5.out.grown HG6.out (by omega) (fun g e => by have := HOL.out g e; omega)⟩

set_option maxHeartbeats 4000000 in
set_option maxRecDepth 100000 in
theorem keys_any (t : Tab) (A : Option Addr) (k : Nat) (B : Option Addr) (m : Nat) (w : World) (rb : Row w w.heap.size B (tcells t.cells)) (lb : t.cells.length ≤ 4398046511104) :
    Calls Tryz.prog 42 #[tval t A k B m] w (IntsPost (keysL t) w) := by
  have RB := hid (fun w1 (hb : Below w.heap.size w w1) => rb.step hb)
  have HV := hid (show keysL t = Lib.compact (isort (t.cells.map Cel.key)) from rfl)
  obtain ⟨V, hV⟩ : ∃ V, V = keysL t := ⟨_, rfl⟩
  rw [← hV] at HV ⊢
  clear rb hV
  obtain ⟨⟨c0, c1, c2, c3, cl⟩, l⟩ := t
  obtain ⟨i1, hi0, hz0, hz1, hz2⟩ := info_parts info_int
  simp only [tval] at *
  go_enter Tryz.func42, Tryz.ntmps42
  go_wp2
  obtain ⟨W2, hW2⟩ : ∃ W2 : World, W2 = w.alloc (.cells #[.int .i64 c0, .int .i64 c1, .int .i64 c2, .int .i64 c3, .slice A cl.length k, .slice B l.length m] 29) := ⟨_, rfl⟩
  rw [← hW2]
  have HB2 := hid (show Below w.heap.size w W2 by rw [hW2]; (repeat' (first | (with_reducible exact Below.refl _ _) | (with_reducible assumption) | (with_reducible refine below_drewN ?_ _) | (with_reducible refine Below.drew ?_) | (with_reducible refine Below.alloc ?_ ?_ _) | (with_reducible refine Below.setCell ?_ ?_ _) | (refine Below.trans ?_ (Below.mono (by assumption) ?_)) | go_size)))
  have hs2 : w.heap.size ≤ W2.heap.size := HB2.out.size
  clear hW2
  go_loopw [3, 9] (fun s3 s9 wr => ∃ i : Nat, i ≤ l.length ∧ s9 = .int .i64 i ∧ wr.ownsRow W2.heap.size 3 1 s3 ((l.take i).map Cel.key).length (icells ((l.take i).map Cel.key)) ∧ Below W2.heap.size W2 wr) (fun _ s9 _ => l.length - (intOf s9).toNat)
  case atStart => exact ⟨0, by omega, rfl, by simpa using World.ownsRow_nil _ _ _ _, Below.refl _ _⟩
  case round =>
    obtain ⟨i, hi, rfl, hown, hbw⟩ := hrel
    have hst : ∀ hj : i < l.length, (l.take (i + 1)).map Cel.key = (l.take i).map Cel.key ++ [l[i].key] := by
      intro hj
      rw [List.take_succ_eq_append_getElem hj, List.map_append]; rfl
    have hol : ((l.take i).map Cel.key).length ≤ 4398046511104 := by
      rw [List.length_map, List.length_take]
      omega
    have hfin : ¬ i < l.length → Lib.compact (isort ((l.take i).map Cel.key)) = V := fun h => by rw [HV.out, List.take_of_length_le (by omega)]
    obtain ⟨O, hO⟩ : ∃ O, O = (l.take i).map Cel.key := ⟨_, rfl⟩
    rw [← hO] at hown hst hol hfin
    clear hO
    obtain ⟨A8, c8, rfl⟩ := own_formS hown
    have hB := Below.step' HB2.out hbw
    have HOWN := hid hown
    have HBW := hid hbw
    have HBB := hid hB
    have HFIN := hid hfin
    clear hown hbw hB hfin
    by_cases hlt : i < l.length
    · obtain ⟨b, off, hA, hb, e0, e1, e2, e3, e4⟩ := (RB.out wr HBB.out).cel hlt
      subst hA
      have HST := hid (hst hlt)
      clear hst
      generalize l[i] = x at *
      obtain ⟨⟨d0, d1⟩, ky, co, vl⟩ := x
      simp only at e0 e1 e2 e3 e4
      have hneb : (b = wr.heap.size) = False := by simp; omega
      have hsw := HBW.out.size
      go_wp2_with (at_builtin; refine wpList_append_own _ rfl _ _ 30 rfl W2.heap.size 3 i1 _ 1 8 Tryz.underlying30 hi0 hz0 hz1 hz2 rfl (by decide) _ _ _ rfl ((HOWN.out.alloc _).alloc _) ⟨wr.heap.size + 1, 0, none⟩ 1 1 (icells [ky]) rfl rfl (newsI _ ky _ _ (by simp)) (icells_one _) ?_ ?_ ?_ ?_; rotate_right; intro v6 w6 hown6 hg6 _; rotate_left; (simp only [maxLen]; omega); (omega); (simp; omega))
      go_roundw
      case rel =>
        refine ⟨i + 1, by omega, by go_num, ?_, ((HBW.out.alloc HBW.out.size _).alloc (by simp; omega) _).grown hg6 (by simp; omega) (fun g e => (HOWN.out.lt g e).1)⟩
        rw [HST.out, icells_snoc]
        simpa using hown6
      case measure => simp [intOf]; omega
    · have hfin := HFIN.out hlt
      have HSO := hid (sortI_own O wr HOWN.out (by omega))
      have HOL := hid (fun g e => (HOWN.out.lt g e).1)
      have hsw := HBW.out.size
      clear hst
      go_wp2_with fail
      refine HSO.out.mono ?_
      rintro e w5 ⟨rfl, hown5, hg5⟩
      have hsl := isort_len O
      have hown5' : w5.ownsRow W2.heap.size 3 1 (.slice A8 O.length c8) (isort O).length (icells (isort O)) := by rw [hsl]; exact hown5
      have HC := hid (compactI_own (isort O) w5 hown5' (by omega))
      have hs5 := hg5.size
      have HB5 := hid (HBB.out.grown hg5 (by omega) (fun g e => by have := HOL.out g e; omega))
      clear hown5 hown5' hg5
      go_wp2_with fail
      refine HC.out.mono ?_
      rintro e w6 ⟨v6, rfl, hown6, hg6, hv6⟩
      have HO6 := hid hown6
      have HG6 := hid hg6
      rw [hfin] at HO6
      have HF := hid hfin
      clear hown6 hg6 hfin hv6
      go_wp2
      go_ret
      exact ⟨v6, rfl, own_baseS HO6.out hs2, HB5.out.grown HG6.out (by omega) (fun g e => by have := HOL.out g e; omega)⟩
end Go.Proofs.YtldlmkfigjicgaaGreatDoor
/- zset.Of: a row a key. -/
namespace Go.Proofs.YtldlmkfigjicgaaGreatDoor
set_option linter.unusedVariables false
open Go.ChangeShapes Go.WideShapes Go.ChangeAt Go.RowKit

/-- The last of a list's numbers, or 0. -/
def lastI (l : List Int) : Int := if h : 0 < l.length then l[l.length - 1] else 0
def ofRowN (V : Int → Int → List Int) (key : Int) (j : Nat) : List Int := key :: (List.range j).map (fun c : Nat => lastI (V key (c : Int)))
def ofL (V : Int → Int → List Int) (K : List Int) : List It := K.map (fun key => (ofRowN V key 3, 1))
def ofX (t : Tab) : List It := if tabI t = 0 then ofL (valsL t) (keysL t) else []
theorem ofRowN_succ (V : Int → Int → List Int) (key : Int) (j : Nat) : ofRowN V key (j + 1) = ofRowN V key j ++ [lastI (V key (j : Int))] := by
  rw [ofRowN, ofRowN, List.range_succ, List.map_append, List.cons_append]; rfl
theorem ofRowN_len (V : Int → Int → List Int) (key : Int) (j : Nat) : (ofRowN V key j).length = j + 1 := by simp [ofRowN]
theorem tabI_cells {t : Tab} (h : tabI t = 0) : t.cells.length ≤ 400 := Nat.le_of_not_lt fun h2 => by
  by_cases q : checkI t.c = 0
  · have := tabI_large q h2; omega
  · have := tabI_ctx q; omega

theorem own_litI (w : World) (x : Int) (T : TypeId) : (w.alloc (.cells #[.int .i64 x] T)).ownsRow w.heap.size T 1 (.slice (some ⟨w.heap.size, 0, none⟩) 1 1) 1 (icells [x]) := by
  refine ⟨rfl, .inr ⟨w.heap.size, 1, #[.int .i64 x], rfl, Nat.le_refl _, heap_alloc_new w _, Nat.le_refl _, by decide, rfl, rfl⟩⟩

set_option maxHeartbeats 8000000 in
set_option maxRecDepth 100000 in
theorem of_any (t : Tab) (A : Option Addr) (k : Nat) (B : Option Addr) (m : Nat) (w : World) (ra : Row w w.heap.size A (dcells t.c.cloud)) (la : t.c.cloud.length ≤ 9223372036854775807)
    (rb : Row w w.heap.size B (tcells t.cells)) (lb : t.cells.length ≤ 9223372036854775807) :
    Calls Tryz.prog 13 #[tval t A k B m] w (ItsErr (ofX t) (tabI t) w) := by
  have HC := hid (fun w1 (hb : Below w.heap.size w w1) => tcheck_any t A k B m w1 (ra.step hb) la (rb.step hb) lb)
  have HX := hid (show ofX t = if tabI t = 0 then ofL (valsL t) (keysL t) else [] from rfl)
  have HN := hid (@tabI_cells t)
  have HKS := hid (fun (h4 : t.cells.length ≤ 400) w1 (hb : Below w.heap.size w w1) => keys_any t A k B m w1 (rb.step hb) (by omega))
  have HVS := hid (fun (h4 : t.cells.length ≤ 400) key col w1 (hb : Below w.heap.size w w1) => values_any t key col A k B m w1 (rb.step hb) (by omega))
  have HVL := hid (valsL_len t)
  have HKL := hid (keysL_len t)
  clear ra rb
  obtain ⟨E, hE⟩ : ∃ E, E = tabI t := ⟨_, rfl⟩
  obtain ⟨X, hX⟩ : ∃ X, X = ofX t := ⟨_, rfl⟩
  obtain ⟨V, hV⟩ : ∃ V, V = valsL t := ⟨_, rfl⟩
  obtain ⟨K, hK⟩ : ∃ K, K = keysL t := ⟨_, rfl⟩
  rw [← hX, ← hE]
  rw [← hX, ← hE, ← hV, ← hK] at HX
  rw [← hE] at HC HN
  rw [← hK] at HKS HKL
  rw [← hV] at HVS HVL
  clear hE hX hV hK
  obtain ⟨⟨c0, c1, c2, c3, cl⟩, l⟩ := t
  obtain ⟨i1, hi0, hz0, hz1, hz2⟩ := info_parts info_int
  simp only [tval] at HC HKS HVS ⊢
  simp only at la lb HN HKS HVS HVL HKL
  obtain ⟨W, hW⟩ : ∃ W : World, W = w.alloc (.cells #[.int .i64 c0, .int .i64 c1, .int .i64 c2, .int .i64 c3, .slice A cl.length k, .slice B l.length m] 29) := ⟨_, rfl⟩
  have HBW := hid (show Below w.heap.size w W by rw [hW]; (repeat' (first | (with_reducible exact Below.refl _ _) | (with_reducible assumption) | (with_reducible refine below_drewN ?_ _) | (with_reducible refine Below.drew ?_) | (with_reducible refine Below.alloc ?_ ?_ _) | (with_reducible refine Below.setCell ?_ ?_ _) | (refine Below.trans ?_ (Below.mono (by assumption) ?_)) | go_size)))
  have HXA := hid (show Blk W w.heap.size #[.int .i64 c0, .int .i64 c1, .int .i64 c2, .int .i64 c3, .slice A cl.length k, .slice B l.length m] 29 by rw [hW]; exact Blk.new _ _ _)
  go_enter Tryz.func13, Tryz.ntmps13
  go_wp2_with fail
  -- STOP-a
  rw [← hW]
  clear hW
  refine (HC.out _ HBW.out).mono ?_
  rintro e w1 ⟨rfl, hb1⟩
  replace HXA := hid (HXA.out.step hb1)
  replace HBW := hid (Below.step' HBW.out hb1)
  clear hb1
  obtain ⟨cHXA, fHXA, sHXA, nHXA⟩ := HXA.out.all
  try simp only [cbox] at cHXA
  by_cases q1 : E = 0
  rotate_left
  · have t1 : (E != 0) = true := by simpa using q1
    have HQ := hid q1
    clear q1
    go_wp2_with fail
    go_ret2
    exact itsErr_nil' (by rw [HX.out, if_neg HQ.out]) rfl HBW.out
  subst q1
  have hl4 := HN.out rfl
  have HKC := hid (HKS.out hl4)
  have HVC := hid (HVS.out hl4)
  replace HX : Hid (X = ofL V K) := hid (by rw [HX.out, if_pos rfl])
  have hkl := HKL.out
  clear HN HKS HVS HC
  go_wp2_with fail
  -- STOP-b
  refine (HKC.out _ HBW.out).mono ?_
  rintro e w2 ⟨v2, rfl, hown2, hb2⟩
  obtain ⟨A2, k2, rfl⟩ := own_formS hown2
  clear cHXA fHXA sHXA nHXA
  replace HXA := hid (HXA.out.step hb2)
  replace HBW := hid (Below.step' HBW.out hb2)
  have HRK := hid (Row.of_ownS hown2)
  clear hb2 hown2
  go_wp2_with fail
  -- STOP-c
  go_loopw [5, 20] (fun s5 s20 wr => ∃ (i : Nat) (S : List IR), i ≤ K.length ∧ s20 = .int .i64 i ∧ S.length = i ∧ Hid (its S = ofL V (K.take i)) ∧ Hid (wr.ownsRow w2.heap.size 67 2 s5 S.length (rcells S)) ∧ Hid (RowsNew wr w2.heap.size s5 S) ∧ Hid (Below w2.heap.size w2 wr)) (fun _ s20 _ => K.length - (intOf s20).toNat)
  case atStart => exact ⟨0, [], by omega, rfl, rfl, hid (by simp [its, ofL]), hid (World.ownsRow_nil _ _ _ _), hid (RowsNew.nil _ _ _), hid (Below.refl _ _)⟩
  case round =>
    obtain ⟨i, S, hi, rfl, hSi, HIS, HOWN, HNEW, HB⟩ := hrel
    obtain ⟨wo, rfl⟩ : ∃ wx : World, wx = wr := ⟨_, rfl⟩
    obtain ⟨A6, c6, rfl⟩ := own_formS HOWN.out
    have hs2 := HB.out.size
    have hlS : S.length ≤ 400 := by omega
    have HSI := hid hSi
    clear hSi
    by_cases hlt : i < K.length
    · obtain ⟨b, off, rfl, hb, h0⟩ := (HRK.out.step HB.out).int hlt
      have HST := hid (show ofL V (K.take (i + 1)) = ofL V (K.take i) ++ [(ofRowN V K[i] 3, 1)] by rw [List.take_succ_eq_append_getElem hlt, ofL, List.map_append]; rfl)
      generalize K[i] = key at *
      have HXO := hid (HXA.out.step HB.out)
      have HBO := hid (Below.step' HBW.out HB.out)
      go_wp2_with fail
      -- STOP-d
      obtain ⟨W3, hW3⟩ : ∃ W3 : World, W3 = wo.alloc (.cells #[.int .i64 key] 3) := ⟨_, rfl⟩
      rw [← hW3]
      have HB3 := hid (show Below wo.heap.size wo W3 by rw [hW3]; exact alloc_below (Below.refl _ _) _)
      have HO3 := hid (show W3.ownsRow wo.heap.size 3 1 (.slice (some ⟨wo.heap.size, 0, none⟩) 1 1) 1 (icells [key]) by rw [hW3]; exact own_litI _ _ _)
      clear hW3 h0 hb
      go_loopw [8, 26] (fun s8 s26 wr => ∃ j : Nat, j ≤ 3 ∧ s26 = .int .i64 j ∧ Hid (wr.ownsRow wo.heap.size 3 1 s8 (j + 1) (icells (ofRowN V key j))) ∧ Hid (Below wo.heap.size wo wr)) (fun _ s26 _ => 3 - (intOf s26).toNat)
      case atStart => exact ⟨0, by omega, rfl, HO3, HB3⟩
      case round =>
        obtain ⟨j, hj, rfl, HR, HBI⟩ := hrel
        obtain ⟨wi, rfl⟩ : ∃ wx : World, wx = wr := ⟨_, rfl⟩
        obtain ⟨A8, c8, rfl⟩ := own_formS HR.out
        have hsi := HBI.out.size
        by_cases hl3 : j < 3
        · have t3 : ((j : Int) < 3) = True := eq_true (by omega)
          have HXI := hid (HXO.out.step HBI.out)
          have HBB := hid (Below.step' HBO.out HBI.out)
          have HVJ := hid (HVC.out key (j : Int) wi HBB.out)
          have HRS := hid (ofRowN_succ V key j)
          have HVN := hid (HVL.out key (j : Int))
          obtain ⟨U, hU⟩ : ∃ U, U = V key (j : Int) := ⟨_, rfl⟩
          rw [← hU] at HVJ HRS HVN
          clear hU
          obtain ⟨cHXI, fHXI, sHXI, nHXI⟩ := HXI.out.all
          try simp only [cbox] at cHXI
          go_wp2_with fail
          -- STOP-e
          refine HVJ.out.mono ?_
          rintro e w4 ⟨v4, rfl, hown4, hb4⟩
          obtain ⟨A4, k4, rfl⟩ := own_formS hown4
          have HB4 := hid hb4
          have HRV := hid (Row.of_ownS hown4)
          have HR4 := hid (own_laterS HR.out hb4)
          have hs4 := hb4.size
          clear cHXI fHXI sHXI nHXI
          clear hb4 hown4
          by_cases h0 : 0 < U.length
          · have t4 : ((0 : Int) < (U.length : Int)) = True := eq_true (by omega)
            have hu4 := HVN.out
            obtain ⟨b4, o4, rfl, hbb4, hv4⟩ := HRV.out.int (k := U.length - 1) (by omega)
            have HLI := hid (show lastI U = U[U.length - 1] by rw [lastI, dif_pos h0])
            have e4 : ((U.length : Int) - 1).toNat = U.length - 1 := by omega
            have w4' : IntKind.i64.wrap ((U.length : Int) - 1) = (U.length : Int) - 1 := IntWalk.i64_in _ (by omega)
            have g4 : (0 : Int) ≤ (U.length : Int) - 1 := by omega
            have g5 : (U.length : Int) - 1 < (U.length : Int) := by omega
            generalize U[U.length - 1] = uv at *
            go_wp2_with (at_builtin; refine wpList_append_own _ rfl _ _ 30 rfl wo.heap.size 3 i1 _ 1 8 Tryz.underlying30 hi0 hz0 hz1 hz2 rfl (by decide) _ _ _ rfl (HR4.out.alloc _) ⟨w4.heap.size, 0, none⟩ 1 1 (icells [uv]) rfl rfl (newsI _ uv _ _ rfl) (icells_one _) ?_ ?_ ?_ ?_; rotate_right; intro v6 w6 hown6 hg6 _; rotate_left; (simp only [maxLen]; omega); (omega); (simp; omega))
            -- STOP-f
            go_roundw
            case rel =>
              refine ⟨j + 1, by omega, by go_num, hid ?_, hid (Below.grown (Below.alloc (HBI.out.trans (HB4.out.mono hsi)) (by omega) _) hg6 (by simp; omega) (fun g e => (HR4.out.lt g e).1))⟩
              rw [HRS.out, HLI.out, icells_snoc]
              simpa using hown6
            case measure => simp [intOf]; omega
          · have h0' : U.length = 0 := by omega
            have t4 : ((0 : Int) < (U.length : Int)) = False := eq_false (by omega)
            have HLI := hid (show lastI U = 0 by rw [lastI, dif_neg h0])
            go_wp2_with (at_builtin; refine wpList_append_own _ rfl _ _ 30 rfl wo.heap.size 3 i1 _ 1 8 Tryz.underlying30 hi0 hz0 hz1 hz2 rfl (by decide) _ _ _ rfl (HR4.out.alloc _) ⟨w4.heap.size, 0, none⟩ 1 1 (icells [0]) rfl rfl (newsI _ 0 _ _ rfl) (icells_one _) ?_ ?_ ?_ ?_; rotate_right; intro v6 w6 hown6 hg6 _; rotate_left; (simp only [maxLen]; omega); (omega); (simp; omega))
            -- STOP-g
            go_roundw
            case rel =>
              refine ⟨j + 1, by omega, by go_num, hid ?_, hid (Below.grown (Below.alloc (HBI.out.trans (HB4.out.mono hsi)) (by omega) _) hg6 (by simp; omega) (fun g e => (HR4.out.lt g e).1))⟩
              rw [HRS.out, HLI.out, icells_snoc]
              simpa using hown6
            case measure => simp [intOf]; omega
        · have hj3 : j = 3 := by omega
          subst hj3
          have HLR := hid (ofRowN_len V key 3)
          obtain ⟨R, hR⟩ : ∃ R, R = ofRowN V key 3 := ⟨_, rfl⟩
          rw [← hR] at HR HST HLR
          rw [show (3 : Nat) + 1 = 4 from rfl] at HR HLR
          clear hR
          have HOW8 := hid (own_laterS HOWN.out HBI.out)
          have HNEW8 := hid (HNEW.out.step HBI.out)
          have hone : ∀ u ∈ ([.slice A8 4 c8, .int .i64 1] : List Value), u.oneCell' = true := by
            intro u hu
            simp only [List.mem_cons, List.not_mem_nil, or_false] at hu
            rcases hu with rfl | rfl <;> rfl
          have hx : (⟨R, A8, c8, 1⟩ : IR).cells = [.slice A8 4 c8, .int .i64 1] := by simp only [IR.cells, HLR.out]
          have HXC := hid hx
          clear hx
          go_wp2_with (at_builtin; refine wpList_append_row elem_item rfl _ _ rfl w2.heap.size _ _ _ rfl (HOW8.out.alloc _) (some ⟨wi.heap.size, 0, none⟩) 1 1 (wi.heap.size + 1) [.slice A8 4 c8, .int .i64 1] rfl rfl (Row.new' _ _ _ rfl rfl (Nat.lt_succ_self _)) hone ?_ ?_ ?_ ?_; rotate_right; intro v7 w7 hown7 hg7 hif7; rotate_left; (simp only [maxLen]; omega); (omega); (have := HB.out.size; simp; omega))
          -- STOP-h
          have HNEW9 := hid ((HNEW8.out.step (alloc_below (Below.refl _ _) (.cells #[.slice A8 4 c8, .int .i64 1] 67))).grown hg7 hif7)
          have HROW9 := hid ((RowOwn.of_own HR.out HLR.out.symm).step (alloc_below (Below.refl _ _) (.cells #[.slice A8 4 c8, .int .i64 1] 67)))
          have HIN : Hid (∀ b off q, A8 = some ⟨b, off, q⟩ → wo.heap.size ≤ b ∧ b < wi.heap.size) := hid (fun b off q e => HR.out.lt b (by rw [e]; rfl))
          have hA8 : ∀ b off q, A8 = some ⟨b, off, q⟩ → some b ≠ (Value.slice A6 S.length c6).ownBlock := fun b off q e e2 => by
            have q1 := (HIN.out b off q e).1
            have q2 := (HOWN.out.lt b e2.symm).2
            omega
          have HA8 := hid hA8
          have HIF := hid hif7
          have HG7 := hid hg7
          have HOWN9 := hid hown7
          clear hown7 hg7 hif7 hA8 hone
          go_roundw
          case rel =>
            have HB11 := ((HB.out.trans (HBI.out.mono hs2)).alloc (by omega) (.cells #[.slice A8 4 c8, .int .i64 1] 67)).grown HG7.out (by simp; omega) (fun g e => (HOW8.out.lt g e).1)
            have hr9 := (HROW9.out.grown_ne (Nat.le_refl _) HG7.out HA8.out).more HG7.out.size
            refine ⟨i + 1, S ++ [⟨R, A8, c8, 1⟩], by omega, by go_num, by have := HSI.out; simp; omega, hid ?_, hid ?_, hid ?_, hid HB11⟩
            · rw [HST.out, ← HIS.out]
              show (S ++ [(⟨R, A8, c8, 1⟩ : IR)]).map IR.it = _
              rw [List.map_append]; rfl
            · rw [rcells_snoc, List.length_append, HXC.out]
              exact HOWN9.out
            · refine RowsNew.snoc HNEW9.out (x := (⟨R, A8, c8, 1⟩ : IR)) hr9 (fun b off q e => Nat.le_trans hs2 (HIN.out b off q e).1) (fun b off q e => ?_) (by have := HLR.out; simp only; omega)
              have hlt9 := (HIN.out b off q e).2
              have hsz7 := HG7.out.size
              simp at hsz7
              refine ⟨?_, by omega⟩
              rcases HIF.out with h | h
              · rw [h]; exact HA8.out b off q e
              · rw [h]; intro e2; injection e2 with e2; simp at e2; omega
          case measure => simp [intOf]; omega
    · have hik : i = K.length := by omega
      subst hik
      have hKT : K.take K.length = K := List.take_length
      rw [hKT] at HIS
      have HIT := hid hKT
      clear hKT
      go_wp2_with fail
      go_ret2
      exact ⟨A6, c6, S, rfl, by rw [HIS.out, HX.out], own_baseS HOWN.out HBW.out.size, fun x hx => ⟨(HNEW.out x hx).1, newAt_le (HNEW.out x hx).2.1 HBW.out.size, (HNEW.out x hx).2.2⟩, Below.step' HBW.out HB.out⟩
end Go.Proofs.YtldlmkfigjicgaaGreatDoor
