/- Ints, Vals, ZOf, StbW, Sym, SymM, Sts, ZsA, ZsB, ZsC, ZsD, ZsF, MeetB, Settled, Lat -/
import Derived.Test.YtmcdaibdpeeefaaGreatCk06
import Derived.Test.YtmcdaibdpeeefaaGreatCk02
import Derived.BigRegion
import Derived.Deep.LoopGhost
import Derived.Outline
import Derived.Shelf.SlSortCmp.QuietGrown
import Derived.Deep.CutBlock
import Derived.Deep.CutRange
import Derived.Test.YtmcdaibdpeeefaaGreatCk03
import Derived.WalkSpells
import Derived.Handy
/- Lists of ints in memory; slices.Equal, Sort, Compact at int over rows. -/
namespace Go.Proofs.YtmcdaibdpeeefaaGreat
set_option linter.unusedVariables false
open Go.ChangeShapes Go.WideShapes Go.ChangeAt Go.RowKit Go.Sort

abbrev icells (l : List Int) : List Value := l.map (Value.int .i64)
theorem icells_one (l : List Int) : ∀ u ∈ icells l, u.oneCell' = true := by
  intro u hu
  obtain ⟨x, -, rfl⟩ := List.mem_map.1 hu
  rfl
theorem Row.int {w : World} {B : Nat} {A : Option Addr} {l : List Int} (h : Row w B A (icells l)) {k : Nat} (hk : k < l.length) :
    ∃ b off, A = some ⟨b, off, none⟩ ∧ b < B ∧ w.cell? ⟨b, off + k, none⟩ = some (.int .i64 l[k]) := by
  obtain ⟨b, off, h1, h2, h3⟩ := h.at_ (show 0 < (icells l).length by simp; omega)
  exact ⟨b, off, h1, h2, h3 k _ (by simp [hk])⟩
theorem info_int : (Tryz.prog.info? 3).map (fun i => (i.zero, i.size, i.bytes)) = some (some (.int .i64 0), 1, 8) := by kernel_rfl
theorem newsI (w : World) (x : Int) (T : TypeId) (H : Nat) (hH : w.heap.size = H) : ∀ j u, (icells [x])[j]? = some u → (w.alloc (.cells #[.int .i64 x] T)).cell? ((⟨H, 0, none⟩ : Addr).add j) = some u := by
  intro j u hu
  subst hH
  rw [add_none, Nat.zero_add, cell_of_row _ _ j _ _ _ (heap_alloc_new w _)]
  simpa using hu

set_option maxHeartbeats 400000 in
set_option maxRecDepth 100000 in
theorem equalI_any (l m : List Int) (A B : Option Addr) (c e : Nat) (w : World) (hr : Row w w.heap.size A (icells l)) (hs : Row w w.heap.size B (icells m)) (hl : l.length ≤ 9223372036854775807) (hm : m.length ≤ 9223372036854775807) :
    Calls Tryz.prog 8 #[.slice A l.length c, .slice B m.length e] w fun e w' => e = .returned (.bool (decide (l = m))) ∧ Below w.heap.size w w' := by
  have HR := hid hr
  have HS := hid hs
  clear hr hs
  by_cases hlen : l.length = m.length
  · have hne : ((l.length : Int) != (m.length : Int)) = false := by simp [hlen]
    have HL := hid hlen
    clear hlen
    go_enter Tryz.func8, Tryz.ntmps8
    go_wp2
    go_loopw [13] (fun i wr => (∃ k : Nat, k ≤ l.length ∧ i = .int .i64 k ∧ ∀ j (h : j < l.length) (h' : j < m.length), j < k → l[j] = m[j]) ∧ Below w.heap.size w wr) (fun i _ => l.length - (intOf i).toNat)
    case atStart => exact ⟨⟨0, by omega, rfl, fun j _ _ h => absurd h (by omega)⟩, Below.refl _ _⟩
    case round =>
      obtain ⟨⟨k, hk, rfl, hno⟩, hbw⟩ := hrel
      by_cases hlt : k < l.length
      · have hlt' : k < m.length := by have := HL.out; omega
        obtain ⟨b, off, rfl, hb, h0⟩ := (HR.out.below hbw (Nat.le_refl _)).int hlt
        obtain ⟨b', off', rfl, hb', h0'⟩ := (HS.out.below hbw (Nat.le_refl _)).int hlt'
        have HN := hid hno
        have HB := hid hbw
        clear hno hbw
        generalize hd : l[k] = d at *
        generalize hd' : m[k] = d' at *
        have HD := hid hd
        have HD' := hid hd'
        clear hd hd'
        by_cases hq : d = d'
        · have q : (d != d') = false := by simp [hq]
          have HQ := hid hq
          clear hq
          go_wp2
          refine wp_region_quiet_lit (by kernel_rfl) (by kernel_rfl) ?_
          repeat (any_goals ((with_reducible refine wpQuiet_step (fun K hK => ?_)); go_simp; first | (with_reducible refine hK _ ?_; clear hK K) | ((with_reducible apply Exists.intro); (with_reducible refine ⟨fun _ => ?_, hK _ ?_⟩); (fail); clear hK K) | ((with_reducible refine (if_neg ?_).mpr (hK _ ?_)); (decide); clear hK K) | (split <;> (with_reducible refine hK _ ?_; clear hK K))))
          all_goals ((with_reducible refine wpQuiet_nil ?_); intro _ hw'; obtain ⟨nq, hw''⟩ := hw'; subst hw'')
          go_wp2
          go_roundw
          case rel =>
            refine ⟨⟨k + 1, by omega, by go_num, fun j h h' hj => ?_⟩, below_drewN HB.out _⟩
            by_cases e : j = k
            · subst e; rw [HD.out, HD'.out]; exact HQ.out
            · exact HN.out j h h' (by omega)
          case measure => simp [intOf]; omega
        · have q : (d != d') = true := by simp [hq]
          have HQ := hid hq
          clear hq
          go_wp2
          refine wp_region_quiet_lit (by kernel_rfl) (by kernel_rfl) ?_
          repeat (any_goals ((with_reducible refine wpQuiet_step (fun K hK => ?_)); go_simp; first | (with_reducible refine hK _ ?_; clear hK K) | ((with_reducible apply Exists.intro); (with_reducible refine ⟨fun _ => ?_, hK _ ?_⟩); (fail); clear hK K) | ((with_reducible refine (if_neg ?_).mpr (hK _ ?_)); (decide); clear hK K) | (split <;> (with_reducible refine hK _ ?_; clear hK K))))
          all_goals ((with_reducible refine wpQuiet_nil ?_); intro _ hw'; obtain ⟨nq, hw''⟩ := hw'; subst hw'')
          go_wp2
          go_ret
          refine ⟨ret_bool ?_, below_drewN HB.out _⟩
          symm
          rw [decide_eq_false_iff_not]
          rintro rfl
          exact HQ.out (HD.out.symm.trans HD'.out)
      · go_wp2
        go_ret
        refine ⟨ret_bool ?_, hbw⟩
        have : l = m := List.ext_getElem HL.out fun j h h' => hno j h h' (by omega)
        simp [this]
  · have hne : ((l.length : Int) != (m.length : Int)) = true := by simp; omega
    go_enter Tryz.func8, Tryz.ntmps8
    go_wp2
    go_ret
    exact ⟨ret_bool (by symm; simp; rintro rfl; exact hlen rfl), Below.refl _ _⟩

theorem holdsI {w : World} {g : Nat} {l : List Int} {cur : Array Value} {T : TypeId} (hg : w.heap[g]? = some (.cells cur T (0, 0))) (hc : cur.toList.take l.length = icells l) : Holds (Value.int .i64) w g 0 l.toArray := by
  intro j hj
  have hj' : j < l.length := by simpa using hj
  have e := take_eq_get hc (j := j) (by simpa using hj')
  rw [getElem!_pos _ j hj]
  constructor
  · rw [Nat.zero_add, cell_of_row w g j cur T (0, 0) hg, e]; simp [hj']
  · simp [World.frozen?, hg]

/-- A row of ints laid anew in the block that the call owns. -/
theorem put_world {w : World} {B cap g n : Nat} {l l' : List Int} {cur : Array Value} {T : TypeId} {os : Array Obj} (hb : B ≤ g) (hg : w.heap[g]? = some (.cells cur T (0, 0))) (hcap : l.length ≤ cap) (hm : cap ≤ maxLen) (hs : cur.size = cap * 1)
    (hlen : l'.length = l.length) {m : Nat} (hml : m ≤ l'.length) :
    (grow (putRow (Value.int .i64) (Sort.ahead w n) g 0 l'.toArray) os).ownsRow B T 1 (.slice (some ⟨g, 0, none⟩) m cap) m (icells (l'.take m)) ∧ w.grownBy (grow (putRow (Value.int .i64) (Sort.ahead w n) g 0 l'.toArray) os) (some g) := by
  have hlt : g < w.heap.size := by
    rcases Nat.lt_or_ge g w.heap.size with h | h
    · exact h
    · rw [Array.getElem?_eq_none h] at hg; cases hg
  have hnew : (grow (putRow (Value.int .i64) (Sort.ahead w n) g 0 l'.toArray) os).heap[g]? = some (.cells (putCells (Value.int .i64) 0 l'.toArray cur) T (0, 0)) := by
    unfold grow putRow mapBlock Sort.ahead
    simp only [Array.getElem?_append, Array.size_modify, hlt, if_true, Array.getElem?_modify, hg, Option.map_some]
    rfl
  refine ⟨⟨by simp [hml], .inr ⟨g, cap, _, rfl, hb, hnew, by omega, hm, by simp [putCells, hs], ?_⟩⟩, ?_⟩
  · apply List.ext_getElem?
    intro j
    by_cases hj : j < m
    · have hjc : j < cur.size := by rw [hs]; omega
      rw [List.getElem?_take_of_lt (by omega)]
      simp only [putCells, Array.toList_mapIdx, List.getElem?_mapIdx]
      have : cur.toList[j]? = some cur.toList[j] := List.getElem?_eq_getElem (by simpa using hjc)
      rw [this]
      have hj' : j < l'.length := by omega
      simp only [Option.map_some, Nat.zero_le, Nat.zero_add, List.size_toArray, hj', and_self, if_true, Nat.sub_zero]
      rw [getElem!_pos _ j (by simpa using hj')]
      simp [List.getElem?_take_of_lt hj, hj']
    · rw [List.getElem?_eq_none (by simp; omega), List.getElem?_eq_none (by simp; omega)]
  · refine ⟨rfl, rfl, rfl, ?_, ?_⟩
    · unfold grow putRow mapBlock Sort.ahead
      simp
    · intro k hk hne
      have hne' : g ≠ k := fun e => hne (by rw [e])
      unfold grow putRow mapBlock Sort.ahead
      simp [Array.getElem?_append, hk, Array.getElem_modify, hne']

theorem grow_none (W : World) : grow W #[] = W := by
  unfold grow
  rw [Array.append_empty]

def isort (l : List Int) : List Int := l.mergeSort fun x y => decide (x ≤ y)
theorem isort_len (l : List Int) : (isort l).length = l.length := by unfold isort; simp

theorem sortI_own {B : Nat} {v : Value} (l : List Int) (w : World) (hown : w.ownsRow B 3 1 v l.length (icells l)) (hl : l.length ≤ 140737488355328) :
    Calls Tryz.prog 20 #[v] w fun e w' => e = .returned (.tuple #[]) ∧ w'.ownsRow B 3 1 v l.length (icells (isort l)) ∧ w.grownBy w' v.ownBlock := by
  rcases hown.2 with ⟨rfl, h0⟩ | ⟨g, cap, cur, rfl, hb, hg, hcap, hm, hs, ht⟩
  · have hl0 : l = [] := List.eq_nil_of_length_eq_zero h0
    subst hl0
    refine (Tryz.slices_Sort_int_none none 0 w).mono fun e w' ⟨he, hw⟩ => ?_
    subst hw
    refine ⟨he, by simpa [isort] using hown, ⟨rfl, rfl, rfl, Nat.le_refl _, fun _ _ _ => rfl⟩⟩
  · have hlt : g < w.heap.size := by
      rcases Nat.lt_or_ge g w.heap.size with h | h
      · exact h
      · rw [Array.getElem?_eq_none h] at hg; cases hg
    refine (Tryz.slices_Sort_int g 0 cap l w (holdsI hg (by simpa using ht)) hlt (by omega)).mono fun e w' ⟨he, n, os, hw⟩ => ?_
    subst hw
    have := put_world (l := l) (l' := isort l) (os := os) (n := n) hb hg hcap hm hs (isort_len l) (m := l.length) (by rw [isort_len]; exact Nat.le_refl _)
    rw [List.take_of_length_le (by rw [isort_len]; exact Nat.le_refl _)] at this
    exact ⟨he, this.1, this.2⟩

theorem compact_len (l : List Int) : (Lib.compact l).length ≤ l.length := by
  unfold Lib.compact Lib.compactUpTo
  rw [List.length_map]
  refine Nat.le_trans (List.length_filter_le _ _) (by simp)

theorem compactI_own {B : Nat} {v : Value} (l : List Int) (w : World) (hown : w.ownsRow B 3 1 v l.length (icells l)) (hl : l.length ≤ 140737488355328) :
    Calls Tryz.prog 21 #[v] w fun e w' => ∃ v', e = .returned v' ∧ w'.ownsRow B 3 1 v' (Lib.compact l).length (icells (Lib.compact l)) ∧ w.grownBy w' v.ownBlock ∧ v'.ownBlock = v.ownBlock := by
  rcases hown.2 with ⟨rfl, h0⟩ | ⟨g, cap, cur, rfl, hb, hg, hcap, hm, hs, ht⟩
  · have hl0 : l = [] := List.eq_nil_of_length_eq_zero h0
    subst hl0
    refine (Tryz.slices_Compact_int_empty none 0 w).mono fun e w' ⟨he, hw⟩ => ?_
    subst hw
    exact ⟨_, he, by simpa [Lib.compact, Lib.compactUpTo] using hown, ⟨rfl, rfl, rfl, Nat.le_refl _, fun _ _ _ => rfl⟩, rfl⟩
  · refine (Tryz.slices_Compact_int g 0 cap l w (holdsI hg (by simpa using ht)) (by omega) hcap).mono fun e w' ⟨he, q, hw⟩ => ?_
    subst hw
    have hc := compact_len l
    have := put_world (l := l) (l' := Lib.compact l ++ List.replicate (l.length - (Lib.compact l).length) 0) (os := #[]) (n := q) hb hg hcap hm hs (by simp; omega) (m := (Lib.compact l).length) (by simp)
    rw [List.take_append_of_le_length (Nat.le_refl _), List.take_length] at this
    rw [grow_none] at this
    exact ⟨_, he, this.1, this.2, rfl⟩
end Go.Proofs.YtmcdaibdpeeefaaGreat
/- table.Values, table.Keys. -/
namespace Go.Proofs.YtmcdaibdpeeefaaGreat
set_option linter.unusedVariables false
open Go.ChangeShapes Go.WideShapes Go.ChangeAt Go.RowKit

def IntsPost (l : List Int) (w : World) (e : Ending) (w' : World) : Prop :=
  ∃ v, e = .returned v ∧ w'.ownsRow w.heap.size 3 1 v l.length (icells l) ∧ Below w.heap.size w w'
def atKC (key col : Int) (x : Cel) : Bool := x.key == key && x.col == col
def onceI (l : List Int) : List Int := Lib.compact (isort l)
def valsL (t : Tab) (key col : Int) : List Int := onceI ((t.cells.filter (atKC key col)).map Cel.val)
def keysL (t : Tab) : List Int := onceI (t.cells.map Cel.key)
theorem valsL_len (t : Tab) (key col : Int) : (valsL t key col).length ≤ t.cells.length := by
  unfold valsL onceI
  refine Nat.le_trans (compact_len _) ?_
  rw [isort_len, List.length_map]
  exact List.length_filter_le _ _
theorem keysL_len (t : Tab) : (keysL t).length ≤ t.cells.length := by
  unfold keysL onceI
  refine Nat.le_trans (compact_len _) ?_
  rw [isort_len, List.length_map]
  exact Nat.le_refl _
theorem icells_snoc (l : List Int) (x : Int) : icells (l ++ [x]) = icells l ++ icells [x] := by simp

set_option maxHeartbeats 4000000 in
set_option maxRecDepth 100000 in
theorem values_any (t : Tab) (key col : Int) (A : Option Addr) (k : Nat) (B : Option Addr) (m : Nat) (w : World) (rb : Row w w.heap.size B (tcells t.cells)) (lb : t.cells.length ≤ 4398046511104) :
    Calls Tryz.prog 11 #[tval t A k B m, .int .i64 key, .int .i64 col] w (IntsPost (valsL t key col) w) := by
  have RB := hid (fun w1 (hb : Below w.heap.size w w1) => rb.step hb)
  have HV := hid (show valsL t key col = Lib.compact (isort ((t.cells.filter (atKC key col)).map Cel.val)) from rfl)
  obtain ⟨V, hV⟩ : ∃ V, V = valsL t key col := ⟨_, rfl⟩
  rw [← hV] at HV ⊢
  clear rb hV
  obtain ⟨⟨c0, c1, c2, c3, cl⟩, l⟩ := t
  obtain ⟨i1, hi0, hz0, hz1, hz2⟩ := info_parts info_int
  simp only [tval] at *
  go_enter Tryz.func11, Tryz.ntmps11
  go_wp2
  obtain ⟨W2, hW2⟩ : ∃ W2 : World, W2 = w.alloc (.cells #[.int .i64 c0, .int .i64 c1, .int .i64 c2, .int .i64 c3, .slice A cl.length k, .slice B l.length m] 28) := ⟨_, rfl⟩
  rw [← hW2]
  have HB2 := hid (show Below w.heap.size w W2 by rw [hW2]; (repeat' (first | (with_reducible exact Below.refl _ _) | (with_reducible assumption) | (with_reducible refine below_drewN ?_ _) | (with_reducible refine Below.drew ?_) | (with_reducible refine Below.alloc ?_ ?_ _) | (with_reducible refine Below.setCell ?_ ?_ _) | (refine Below.trans ?_ (Below.mono (by assumption) ?_)) | go_size)))
  have hs2 : w.heap.size ≤ W2.heap.size := HB2.out.size
  clear hW2
  go_loopw [7, 13] (fun s7 s13 wr => ∃ i : Nat, i ≤ l.length ∧ s13 = .int .i64 i ∧ wr.ownsRow W2.heap.size 3 1 s7 (((l.take i).filter (atKC key col)).map Cel.val).length (icells (((l.take i).filter (atKC key col)).map Cel.val)) ∧ Below W2.heap.size W2 wr) (fun _ s13 _ => l.length - (intOf s13).toNat)
  case atStart => exact ⟨0, by omega, rfl, by simpa using World.ownsRow_nil _ _ _ _, Below.refl _ _⟩
  case round =>
    obtain ⟨i, hi, rfl, hown, hbw⟩ := hrel
    have hst : ∀ hj : i < l.length, ((l.take (i + 1)).filter (atKC key col)).map Cel.val = ((l.take i).filter (atKC key col)).map Cel.val ++ (if atKC key col l[i] = true then [l[i].val] else []) := by
      intro hj
      rw [List.take_succ_eq_append_getElem hj, List.filter_append, List.map_append, List.filter_cons, List.filter_nil]
      split <;> simp
    have hol : (((l.take i).filter (atKC key col)).map Cel.val).length ≤ 4398046511104 := by
      have := List.length_filter_le (atKC key col) (l.take i)
      rw [List.length_take] at this
      rw [List.length_map]
      omega
    have hfin : ¬ i < l.length → Lib.compact (isort (((l.take i).filter (atKC key col)).map Cel.val)) = V := fun h => by rw [HV.out, List.take_of_length_le (by omega)]
    obtain ⟨O, hO⟩ : ∃ O, O = ((l.take i).filter (atKC key col)).map Cel.val := ⟨_, rfl⟩
    rw [← hO] at hown hst hol hfin
    clear hO
    obtain ⟨A8, c8, rfl⟩ := own_formS hown
    have hB := Below.step' HB2.out hbw
    have HOWN := hid hown
    have HBW := hid hbw
    have HBB := hid hB
    have HFIN := hid hfin
    clear hown hbw hB hfin
    by_cases hlt : i < l.length
    · obtain ⟨b, off, hA, hb, e0, e1, e2, e3, e4⟩ := (RB.out wr HBB.out).cel hlt
      subst hA
      have HST := hid (hst hlt)
      clear hst
      generalize l[i] = x at *
      obtain ⟨⟨d0, d1⟩, ky, co, vl⟩ := x
      simp only at e0 e1 e2 e3 e4
      have hneb : (b = wr.heap.size) = False := by simp; omega
      have hsw := HBW.out.size
      cases q1 : (ky == key)
      · have HQ := hid (show atKC key col ⟨(d0, d1), ky, co, vl⟩ = false by simp only [atKC, q1, Bool.false_and])
        go_wp2
        go_roundw
        case rel => exact ⟨i + 1, by omega, by go_num, by rw [HST.out, HQ.out, if_neg (by simp), List.append_nil]; exact HOWN.out.alloc _, HBW.out.alloc HBW.out.size _⟩
        case measure => simp [intOf]; omega
      · cases q2 : (co == col)
        · have HQ := hid (show atKC key col ⟨(d0, d1), ky, co, vl⟩ = false by simp only [atKC, q1, q2, Bool.and_false])
          go_wp2
          go_roundw
          case rel => exact ⟨i + 1, by omega, by go_num, by rw [HST.out, HQ.out, if_neg (by simp), List.append_nil]; exact HOWN.out.alloc _, HBW.out.alloc HBW.out.size _⟩
          case measure => simp [intOf]; omega
        · have HQ := hid (show atKC key col ⟨(d0, d1), ky, co, vl⟩ = true by simp only [atKC, q1, q2, Bool.and_true])
          go_wp2_with (at_builtin; refine wpList_append_own _ rfl _ _ 38 rfl W2.heap.size 3 i1 _ 1 8 Tryz.underlying38 hi0 hz0 hz1 hz2 rfl (by decide) _ _ _ rfl ((HOWN.out.alloc _).alloc _) ⟨wr.heap.size + 1, 0, none⟩ 1 1 (icells [vl]) rfl rfl (newsI _ vl _ _ (by simp)) (icells_one _) ?_ ?_ ?_ ?_; rotate_right; intro v6 w6 hown6 hg6 _; rotate_left; (simp only [maxLen]; omega); (omega); (simp; omega))
          go_roundw
          case rel =>
            refine ⟨i + 1, by omega, by go_num, ?_, ((HBW.out.alloc HBW.out.size _).alloc (by simp; omega) _).grown hg6 (by simp; omega) (fun g e => (HOWN.out.lt g e).1)⟩
            rw [HST.out, HQ.out, if_pos rfl, icells_snoc]
            simpa using hown6
          case measure => simp [intOf]; omega
    · have hfin := HFIN.out hlt
      have HSO := hid (sortI_own O wr HOWN.out (by omega))
      have HOL := hid (fun g e => (HOWN.out.lt g e).1)
      have hsw := HBW.out.size
      clear hst
      go_wp2_with fail
      refine HSO.out.mono ?_
      rintro e w5 ⟨rfl, hown5, hg5⟩
      have hsl := isort_len O
      have hown5' : w5.ownsRow W2.heap.size 3 1 (.slice A8 O.length c8) (isort O).length (icells (isort O)) := by rw [hsl]; exact hown5
      have HC := hid (compactI_own (isort O) w5 hown5' (by omega))
      have hs5 := hg5.size
      have HB5 := hid (HBB.out.grown hg5 (by omega) (fun g e => by have := HOL.out g e; omega))
      clear hown5 hown5' hg5
      go_wp2_with fail
      refine HC.out.mono ?_
      rintro e w6 ⟨v6, rfl, hown6, hg6, hv6⟩
      have HO6 := hid hown6
      have HG6 := hid hg6
      rw [hfin] at HO6
      have HF := hid hfin
      clear hown6 hg6 hfin hv6
      go_wp2
      go_ret
      exact ⟨v6, rfl, own_baseS HO6.out hs2, HB5.out.grown HG6.out (by omega) (fun g e => by have := HOL.out g e; omega)⟩

set_option maxHeartbeats 4000000 in
set_option maxRecDepth 100000 in
theorem keys_any (t : Tab) (A : Option Addr) (k : Nat) (B : Option Addr) (m : Nat) (w : World) (rb : Row w w.heap.size B (tcells t.cells)) (lb : t.cells.length ≤ 4398046511104) :
    Calls Tryz.prog 9 #[tval t A k B m] w (IntsPost (keysL t) w) := by
  have RB := hid (fun w1 (hb : Below w.heap.size w w1) => rb.step hb)
  have HV := hid (show keysL t = Lib.compact (isort (t.cells.map Cel.key)) from rfl)
  obtain ⟨V, hV⟩ : ∃ V, V = keysL t := ⟨_, rfl⟩
  rw [← hV] at HV ⊢
  clear rb hV
  obtain ⟨⟨c0, c1, c2, c3, cl⟩, l⟩ := t
  obtain ⟨i1, hi0, hz0, hz1, hz2⟩ := info_parts info_int
  simp only [tval] at *
  go_enter Tryz.func9, Tryz.ntmps9
  go_wp2
  obtain ⟨W2, hW2⟩ : ∃ W2 : World, W2 = w.alloc (.cells #[.int .i64 c0, .int .i64 c1, .int .i64 c2, .int .i64 c3, .slice A cl.length k, .slice B l.length m] 28) := ⟨_, rfl⟩
  rw [← hW2]
  have HB2 := hid (show Below w.heap.size w W2 by rw [hW2]; (repeat' (first | (with_reducible exact Below.refl _ _) | (with_reducible assumption) | (with_reducible refine below_drewN ?_ _) | (with_reducible refine Below.drew ?_) | (with_reducible refine Below.alloc ?_ ?_ _) | (with_reducible refine Below.setCell ?_ ?_ _) | (refine Below.trans ?_ (Below.mono (by assumption) ?_)) | go_size)))
  have hs2 : w.heap.size ≤ W2.heap.size := HB2.out.size
  clear hW2
  go_loopw [3, 9] (fun s3 s9 wr => ∃ i : Nat, i ≤ l.length ∧ s9 = .int .i64 i ∧ wr.ownsRow W2.heap.size 3 1 s3 ((l.take i).map Cel.key).length (icells ((l.take i).map Cel.key)) ∧ Below W2.heap.size W2 wr) (fun _ s9 _ => l.length - (intOf s9).toNat)
  case atStart => exact ⟨0, by omega, rfl, by simpa using World.ownsRow_nil _ _ _ _, Below.refl _ _⟩
  case round =>
    obtain ⟨i, hi, rfl, hown, hbw⟩ := hrel
    have hst : ∀ hj : i < l.length, (l.take (i + 1)).map Cel.key = (l.take i).map Cel.key ++ [l[i].key] := by
      intro hj
      rw [List.take_succ_eq_append_getElem hj, List.map_append]; rfl
    have hol : ((l.take i).map Cel.key).length ≤ 4398046511104 := by
      rw [List.length_map, List.length_take]
      omega
    have hfin : ¬ i < l.length → Lib.compact (isort ((l.take i).map Cel.key)) = V := fun h => by rw [HV.out, List.take_of_length_le (by omega)]
    obtain ⟨O, hO⟩ : ∃ O, O = (l.take i).map Cel.key := ⟨_, rfl⟩
    rw [← hO] at hown hst hol hfin
    clear hO
    obtain ⟨A8, c8, rfl⟩ := own_formS hown
    have hB := Below.step' HB2.out hbw
    have HOWN := hid hown
    have HBW := hid hbw
    have HBB := hid hB
    have HFIN := hid hfin
    clear hown hbw hB hfin
    by_cases hlt : i < l.length
    · obtain ⟨b, off, hA, hb, e0, e1, e2, e3, e4⟩ := (RB.out wr HBB.out).cel hlt
      subst hA
      have HST := hid (hst hlt)
      clear hst
      generalize l[i] = x at *
      obtain ⟨⟨d0, d1⟩, ky, co, vl⟩ := x
      simp only at e0 e1 e2 e3 e4
      have hneb : (b = wr.heap.size) = False := by simp; omega
      have hsw := HBW.out.size
      go_wp2_with (at_builtin; refine wpList_append_own _ rfl _ _ 38 rfl W2.heap.size 3 i1 _ 1 8 Tryz.underlying38 hi0 hz0 hz1 hz2 rfl (by decide) _ _ _ rfl ((HOWN.out.alloc _).alloc _) ⟨wr.heap.size + 1, 0, none⟩ 1 1 (icells [ky]) rfl rfl (newsI _ ky _ _ (by simp)) (icells_one _) ?_ ?_ ?_ ?_; rotate_right; intro v6 w6 hown6 hg6 _; rotate_left; (simp only [maxLen]; omega); (omega); (simp; omega))
      go_roundw
      case rel =>
        refine ⟨i + 1, by omega, by go_num, ?_, ((HBW.out.alloc HBW.out.size _).alloc (by simp; omega) _).grown hg6 (by simp; omega) (fun g e => (HOWN.out.lt g e).1)⟩
        rw [HST.out, icells_snoc]
        simpa using hown6
      case measure => simp [intOf]; omega
    · have hfin := HFIN.out hlt
      have HSO := hid (sortI_own O wr HOWN.out (by omega))
      have HOL := hid (fun g e => (HOWN.out.lt g e).1)
      have hsw := HBW.out.size
      clear hst
      go_wp2_with fail
      refine HSO.out.mono ?_
      rintro e w5 ⟨rfl, hown5, hg5⟩
      have hsl := isort_len O
      have hown5' : w5.ownsRow W2.heap.size 3 1 (.slice A8 O.length c8) (isort O).length (icells (isort O)) := by rw [hsl]; exact hown5
      have HC := hid (compactI_own (isort O) w5 hown5' (by omega))
      have hs5 := hg5.size
      have HB5 := hid (HBB.out.grown hg5 (by omega) (fun g e => by have := HOL.out g e; omega))
      clear hown5 hown5' hg5
      go_wp2_with fail
      refine HC.out.mono ?_
      rintro e w6 ⟨v6, rfl, hown6, hg6, hv6⟩
      have HO6 := hid hown6
      have HG6 := hid hg6
      rw [hfin] at HO6
      have HF := hid hfin
      clear hown6 hg6 hfin hv6
      go_wp2
      go_ret
      exact ⟨v6, rfl, own_baseS HO6.out hs2, HB5.out.grown HG6.out (by omega) (fun g e => by have := HOL.out g e; omega)⟩
end Go.Proofs.YtmcdaibdpeeefaaGreat
/- zset.Of: a row a key. -/
namespace Go.Proofs.YtmcdaibdpeeefaaGreat
set_option linter.unusedVariables false
open Go.ChangeShapes Go.WideShapes Go.ChangeAt Go.RowKit

/-- The last of a list's numbers, or 0. -/
def lastI (l : List Int) : Int := if h : 0 < l.length then l[l.length - 1] else 0
def ofRowN (V : Int → Int → List Int) (key : Int) (j : Nat) : List Int := key :: (List.range j).map (fun c : Nat => lastI (V key (c : Int)))
def ofL (V : Int → Int → List Int) (K : List Int) : List It := K.map (fun key => (ofRowN V key 3, 1))
def ofX (t : Tab) : List It := if tabI t = 0 then ofL (valsL t) (keysL t) else []
theorem ofRowN_succ (V : Int → Int → List Int) (key : Int) (j : Nat) : ofRowN V key (j + 1) = ofRowN V key j ++ [lastI (V key (j : Int))] := by
  rw [ofRowN, ofRowN, List.range_succ, List.map_append, List.cons_append]; rfl
theorem ofRowN_len (V : Int → Int → List Int) (key : Int) (j : Nat) : (ofRowN V key j).length = j + 1 := by simp [ofRowN]
theorem tabI_cells {t : Tab} (h : tabI t = 0) : t.cells.length ≤ 400 := Nat.le_of_not_lt fun h2 => by
  by_cases q : checkI t.c = 0
  · have := tabI_large q h2; omega
  · have := tabI_ctx q; omega

theorem own_litI (w : World) (x : Int) (T : TypeId) : (w.alloc (.cells #[.int .i64 x] T)).ownsRow w.heap.size T 1 (.slice (some ⟨w.heap.size, 0, none⟩) 1 1) 1 (icells [x]) := by
  refine ⟨rfl, .inr ⟨w.heap.size, 1, #[.int .i64 x], rfl, Nat.le_refl _, heap_alloc_new w _, Nat.le_refl _, by decide, rfl, rfl⟩⟩

set_option maxHeartbeats 8000000 in
set_option maxRecDepth 100000 in
theorem of_any (t : Tab) (A : Option Addr) (k : Nat) (B : Option Addr) (m : Nat) (w : World) (ra : Row w w.heap.size A (dcells t.c.cloud)) (la : t.c.cloud.length ≤ 9223372036854775807)
    (rb : Row w w.heap.size B (tcells t.cells)) (lb : t.cells.length ≤ 9223372036854775807) :
    Calls Tryz.prog 4 #[tval t A k B m] w (ItsErr (ofX t) (tabI t) w) := by
  have HC := hid (fun w1 (hb : Below w.heap.size w w1) => tcheck_any t A k B m w1 (ra.step hb) la (rb.step hb) lb)
  have HX := hid (show ofX t = if tabI t = 0 then ofL (valsL t) (keysL t) else [] from rfl)
  have HN := hid (@tabI_cells t)
  have HKS := hid (fun (h4 : t.cells.length ≤ 400) w1 (hb : Below w.heap.size w w1) => keys_any t A k B m w1 (rb.step hb) (by omega))
  have HVS := hid (fun (h4 : t.cells.length ≤ 400) key col w1 (hb : Below w.heap.size w w1) => values_any t key col A k B m w1 (rb.step hb) (by omega))
  have HVL := hid (valsL_len t)
  have HKL := hid (keysL_len t)
  clear ra rb
  obtain ⟨E, hE⟩ : ∃ E, E = tabI t := ⟨_, rfl⟩
  obtain ⟨X, hX⟩ : ∃ X, X = ofX t := ⟨_, rfl⟩
  obtain ⟨V, hV⟩ : ∃ V, V = valsL t := ⟨_, rfl⟩
  obtain ⟨K, hK⟩ : ∃ K, K = keysL t := ⟨_, rfl⟩
  rw [← hX, ← hE]
  rw [← hX, ← hE, ← hV, ← hK] at HX
  rw [← hE] at HC HN
  rw [← hK] at HKS HKL
  rw [← hV] at HVS HVL
  clear hE hX hV hK
  obtain ⟨⟨c0, c1, c2, c3, cl⟩, l⟩ := t
  obtain ⟨i1, hi0, hz0, hz1, hz2⟩ := info_parts info_int
  simp only [tval] at HC HKS HVS ⊢
  simp only at la lb HN HKS HVS HVL HKL
  obtain ⟨W, hW⟩ : ∃ W : World, W = w.alloc (.cells #[.int .i64 c0, .int .i64 c1, .int .i64 c2, .int .i64 c3, .slice A cl.length k, .slice B l.length m] 28) := ⟨_, rfl⟩
  have HBW := hid (show Below w.heap.size w W by rw [hW]; (repeat' (first | (with_reducible exact Below.refl _ _) | (with_reducible assumption) | (with_reducible refine below_drewN ?_ _) | (with_reducible refine Below.drew ?_) | (with_reducible refine Below.alloc ?_ ?_ _) | (with_reducible refine Below.setCell ?_ ?_ _) | (refine Below.trans ?_ (Below.mono (by assumption) ?_)) | go_size)))
  have HXA := hid (show Blk W w.heap.size #[.int .i64 c0, .int .i64 c1, .int .i64 c2, .int .i64 c3, .slice A cl.length k, .slice B l.length m] 28 by rw [hW]; exact Blk.new _ _ _)
  go_enter Tryz.func4, Tryz.ntmps4
  go_wp2_with fail
  -- STOP-a
  rw [← hW]
  clear hW
  refine (HC.out _ HBW.out).mono ?_
  rintro e w1 ⟨rfl, hb1⟩
  replace HXA := hid (HXA.out.step hb1)
  replace HBW := hid (Below.step' HBW.out hb1)
  clear hb1
  obtain ⟨cHXA, fHXA, sHXA, nHXA⟩ := HXA.out.all
  try simp only [cbox] at cHXA
  by_cases q1 : E = 0
  rotate_left
  · have t1 : (E != 0) = true := by simpa using q1
    have HQ := hid q1
    clear q1
    go_wp2_with fail
    go_ret2
    exact itsErr_nil' (by rw [HX.out, if_neg HQ.out]) rfl HBW.out
  subst q1
  have hl4 := HN.out rfl
  have HKC := hid (HKS.out hl4)
  have HVC := hid (HVS.out hl4)
  replace HX : Hid (X = ofL V K) := hid (by rw [HX.out, if_pos rfl])
  have hkl := HKL.out
  clear HN HKS HVS HC
  go_wp2_with fail
  -- STOP-b
  refine (HKC.out _ HBW.out).mono ?_
  rintro e w2 ⟨v2, rfl, hown2, hb2⟩
  obtain ⟨A2, k2, rfl⟩ := own_formS hown2
  clear cHXA fHXA sHXA nHXA
  replace HXA := hid (HXA.out.step hb2)
  replace HBW := hid (Below.step' HBW.out hb2)
  have HRK := hid (Row.of_ownS hown2)
  clear hb2 hown2
  go_wp2_with fail
  -- STOP-c
  go_loopw [5, 20] (fun s5 s20 wr => ∃ (i : Nat) (S : List IR), i ≤ K.length ∧ s20 = .int .i64 i ∧ S.length = i ∧ Hid (its S = ofL V (K.take i)) ∧ Hid (wr.ownsRow w2.heap.size 40 2 s5 S.length (rcells S)) ∧ Hid (RowsNew wr w2.heap.size s5 S) ∧ Hid (Below w2.heap.size w2 wr)) (fun _ s20 _ => K.length - (intOf s20).toNat)
  case atStart => exact ⟨0, [], by omega, rfl, rfl, hid (by simp [its, ofL]), hid (World.ownsRow_nil _ _ _ _), hid (RowsNew.nil _ _ _), hid (Below.refl _ _)⟩
  case round =>
    obtain ⟨i, S, hi, rfl, hSi, HIS, HOWN, HNEW, HB⟩ := hrel
    obtain ⟨wo, rfl⟩ : ∃ wx : World, wx = wr := ⟨_, rfl⟩
    obtain ⟨A6, c6, rfl⟩ := own_formS HOWN.out
    have hs2 := HB.out.size
    have hlS : S.length ≤ 400 := by omega
    have HSI := hid hSi
    clear hSi
    by_cases hlt : i < K.length
    · obtain ⟨b, off, rfl, hb, h0⟩ := (HRK.out.step HB.out).int hlt
      have HST := hid (show ofL V (K.take (i + 1)) = ofL V (K.take i) ++ [(ofRowN V K[i] 3, 1)] by rw [List.take_succ_eq_append_getElem hlt, ofL, List.map_append]; rfl)
      generalize K[i] = key at *
      have HXO := hid (HXA.out.step HB.out)
      have HBO := hid (Below.step' HBW.out HB.out)
      go_wp2_with fail
      -- STOP-d
      obtain ⟨W3, hW3⟩ : ∃ W3 : World, W3 = wo.alloc (.cells #[.int .i64 key] 3) := ⟨_, rfl⟩
      rw [← hW3]
      have HB3 := hid (show Below wo.heap.size wo W3 by rw [hW3]; exact alloc_below (Below.refl _ _) _)
      have HO3 := hid (show W3.ownsRow wo.heap.size 3 1 (.slice (some ⟨wo.heap.size, 0, none⟩) 1 1) 1 (icells [key]) by rw [hW3]; exact own_litI _ _ _)
      clear hW3 h0 hb
      go_loopw [8, 26] (fun s8 s26 wr => ∃ j : Nat, j ≤ 3 ∧ s26 = .int .i64 j ∧ Hid (wr.ownsRow wo.heap.size 3 1 s8 (j + 1) (icells (ofRowN V key j))) ∧ Hid (Below wo.heap.size wo wr)) (fun _ s26 _ => 3 - (intOf s26).toNat)
      case atStart => exact ⟨0, by omega, rfl, HO3, HB3⟩
      case round =>
        obtain ⟨j, hj, rfl, HR, HBI⟩ := hrel
        obtain ⟨wi, rfl⟩ : ∃ wx : World, wx = wr := ⟨_, rfl⟩
        obtain ⟨A8, c8, rfl⟩ := own_formS HR.out
        have hsi := HBI.out.size
        by_cases hl3 : j < 3
        · have t3 : ((j : Int) < 3) = True := eq_true (by omega)
          have HXI := hid (HXO.out.step HBI.out)
          have HBB := hid (Below.step' HBO.out HBI.out)
          have HVJ := hid (HVC.out key (j : Int) wi HBB.out)
          have HRS := hid (ofRowN_succ V key j)
          have HVN := hid (HVL.out key (j : Int))
          obtain ⟨U, hU⟩ : ∃ U, U = V key (j : Int) := ⟨_, rfl⟩
          rw [← hU] at HVJ HRS HVN
          clear hU
          obtain ⟨cHXI, fHXI, sHXI, nHXI⟩ := HXI.out.all
          try simp only [cbox] at cHXI
          go_wp2_with fail
          -- STOP-e
          refine HVJ.out.mono ?_
          rintro e w4 ⟨v4, rfl, hown4, hb4⟩
          obtain ⟨A4, k4, rfl⟩ := own_formS hown4
          have HB4 := hid hb4
          have HRV := hid (Row.of_ownS hown4)
          have HR4 := hid (own_laterS HR.out hb4)
          have hs4 := hb4.size
          clear cHXI fHXI sHXI nHXI
          clear hb4 hown4
          by_cases h0 : 0 < U.length
          · have t4 : ((0 : Int) < (U.length : Int)) = True := eq_true (by omega)
            have hu4 := HVN.out
            obtain ⟨b4, o4, rfl, hbb4, hv4⟩ := HRV.out.int (k := U.length - 1) (by omega)
            have HLI := hid (show lastI U = U[U.length - 1] by rw [lastI, dif_pos h0])
            have e4 : ((U.length : Int) - 1).toNat = U.length - 1 := by omega
            have w4' : IntKind.i64.wrap ((U.length : Int) - 1) = (U.length : Int) - 1 := IntWalk.i64_in _ (by omega)
            have g4 : (0 : Int) ≤ (U.length : Int) - 1 := by omega
            have g5 : (U.length : Int) - 1 < (U.length : Int) := by omega
            generalize U[U.length - 1] = uv at *
            go_wp2_with (at_builtin; refine wpList_append_own _ rfl _ _ 38 rfl wo.heap.size 3 i1 _ 1 8 Tryz.underlying38 hi0 hz0 hz1 hz2 rfl (by decide) _ _ _ rfl (HR4.out.alloc _) ⟨w4.heap.size, 0, none⟩ 1 1 (icells [uv]) rfl rfl (newsI _ uv _ _ rfl) (icells_one _) ?_ ?_ ?_ ?_; rotate_right; intro v6 w6 hown6 hg6 _; rotate_left; (simp only [maxLen]; omega); (omega); (simp; omega))
            -- STOP-f
            go_roundw
            case rel =>
              refine ⟨j + 1, by omega, by go_num, hid ?_, hid (Below.grown (Below.alloc (HBI.out.trans (HB4.out.mono hsi)) (by omega) _) hg6 (by simp; omega) (fun g e => (HR4.out.lt g e).1))⟩
              rw [HRS.out, HLI.out, icells_snoc]
              simpa using hown6
            case measure => simp [intOf]; omega
          · have h0' : U.length = 0 := by omega
            have t4 : ((0 : Int) < (U.length : Int)) = False := eq_false (by omega)
            have HLI := hid (show lastI U = 0 by rw [lastI, dif_neg h0])
            go_wp2_with (at_builtin; refine wpList_append_own _ rfl _ _ 38 rfl wo.heap.size 3 i1 _ 1 8 Tryz.underlying38 hi0 hz0 hz1 hz2 rfl (by decide) _ _ _ rfl (HR4.out.alloc _) ⟨w4.heap.size, 0, none⟩ 1 1 (icells [0]) rfl rfl (newsI _ 0 _ _ rfl) (icells_one _) ?_ ?_ ?_ ?_; rotate_right; intro v6 w6 hown6 hg6 _; rotate_left; (simp only [maxLen]; omega); (omega); (simp; omega))
            -- STOP-g
            go_roundw
            case rel =>
              refine ⟨j + 1, by omega, by go_num, hid ?_, hid (Below.grown (Below.alloc (HBI.out.trans (HB4.out.mono hsi)) (by omega) _) hg6 (by simp; omega) (fun g e => (HR4.out.lt g e).1))⟩
              rw [HRS.out, HLI.out, icells_snoc]
              simpa using hown6
            case measure => simp [intOf]; omega
        · have hj3 : j = 3 := by omega
          subst hj3
          have HLR := hid (ofRowN_len V key 3)
          obtain ⟨R, hR⟩ : ∃ R, R = ofRowN V key 3 := ⟨_, rfl⟩
          rw [← hR] at HR HST HLR
          rw [show (3 : Nat) + 1 = 4 from rfl] at HR HLR
          clear hR
          have HOW8 := hid (own_laterS HOWN.out HBI.out)
          have HNEW8 := hid (HNEW.out.step HBI.out)
          have hone : ∀ u ∈ ([.slice A8 4 c8, .int .i64 1] : List Value), u.oneCell' = true := by
            intro u hu
            simp only [List.mem_cons, List.not_mem_nil, or_false] at hu
            rcases hu with rfl | rfl <;> rfl
          have hx : (⟨R, A8, c8, 1⟩ : IR).cells = [.slice A8 4 c8, .int .i64 1] := by simp only [IR.cells, HLR.out]
          have HXC := hid hx
          clear hx
          go_wp2_with (at_builtin; refine wpList_append_row elem_item rfl _ _ rfl w2.heap.size _ _ _ rfl (HOW8.out.alloc _) (some ⟨wi.heap.size, 0, none⟩) 1 1 (wi.heap.size + 1) [.slice A8 4 c8, .int .i64 1] rfl rfl (Row.new' _ _ _ rfl rfl (Nat.lt_succ_self _)) hone ?_ ?_ ?_ ?_; rotate_right; intro v7 w7 hown7 hg7 hif7; rotate_left; (simp only [maxLen]; omega); (omega); (have := HB.out.size; simp; omega))
          -- STOP-h
          have HNEW9 := hid ((HNEW8.out.step (alloc_below (Below.refl _ _) (.cells #[.slice A8 4 c8, .int .i64 1] 40))).grown hg7 hif7)
          have HROW9 := hid ((Row.of_ownS HR.out).step (alloc_below (Below.refl _ _) (.cells #[.slice A8 4 c8, .int .i64 1] 40)))
          have HIN : Hid (∀ b off q, A8 = some ⟨b, off, q⟩ → wo.heap.size ≤ b ∧ b < wi.heap.size) := hid (fun b off q e => HR.out.lt b (by rw [e]; rfl))
          have hA8 : ∀ b off q, A8 = some ⟨b, off, q⟩ → some b ≠ (Value.slice A6 S.length c6).ownBlock := fun b off q e e2 => by
            have q1 := (HIN.out b off q e).1
            have q2 := (HOWN.out.lt b e2.symm).2
            omega
          have HA8 := hid hA8
          have HIF := hid hif7
          have HG7 := hid hg7
          have HOWN9 := hid hown7
          clear hown7 hg7 hif7 hA8 hone
          go_roundw
          case rel =>
            have HB11 := ((HB.out.trans (HBI.out.mono hs2)).alloc (by omega) (.cells #[.slice A8 4 c8, .int .i64 1] 40)).grown HG7.out (by simp; omega) (fun g e => (HOW8.out.lt g e).1)
            have hr9 := (HROW9.out.grown_ne (Nat.le_refl _) HG7.out HA8.out).more HG7.out.size
            refine ⟨i + 1, S ++ [⟨R, A8, c8, 1⟩], by omega, by go_num, by have := HSI.out; simp; omega, hid ?_, hid ?_, hid ?_, hid HB11⟩
            · rw [HST.out, ← HIS.out]
              show (S ++ [(⟨R, A8, c8, 1⟩ : IR)]).map IR.it = _
              rw [List.map_append]; rfl
            · rw [rcells_snoc, List.length_append, HXC.out]
              exact HOWN9.out
            · refine RowsNew.snoc HNEW9.out (x := (⟨R, A8, c8, 1⟩ : IR)) hr9 (fun b off q e => Nat.le_trans hs2 (HIN.out b off q e).1) (fun b off q e => ?_) (by have := HLR.out; simp only; omega)
              have hlt9 := (HIN.out b off q e).2
              have hsz7 := HG7.out.size
              simp at hsz7
              refine ⟨?_, by omega⟩
              rcases HIF.out with h | h
              · rw [h]; exact HA8.out b off q e
              · rw [h]; intro e2; injection e2 with e2; simp at e2; omega
          case measure => simp [intOf]; omega
    · have hik : i = K.length := by omega
      subst hik
      have hKT : K.take K.length = K := List.take_length
      rw [hKT] at HIS
      have HIT := hid hKT
      clear hKT
      go_wp2_with fail
      go_ret2
      exact ⟨A6, c6, S, rfl, by rw [HIS.out, HX.out], own_baseS HOWN.out HBW.out.size, fun x hx => ⟨(HNEW.out x hx).1, newAt_le (HNEW.out x hx).2.1 HBW.out.size, (HNEW.out x hx).2.2⟩, Below.step' HBW.out HB.out⟩
end Go.Proofs.YtmcdaibdpeeefaaGreat
/- slices.SortStableFunc at items: swapRange, rotate. -/
namespace Go.Proofs.YtmcdaibdpeeefaaGreat
set_option linter.unusedVariables false
open Go.ChangeShapes Go.WideShapes Go.ChangeAt Go.RowKit Go.Shelf Go.Lib Go.Sort

/-- Items of which something holds. -/
abbrev QI (Q : IR → Prop) := {x : IR // Q x}
abbrev QI.cells {Q : IR → Prop} (x : QI Q) : List Value := x.1.cells
variable {Q : IR → Prop} [Inhabited (QI Q)]

/-- What a walk wants of a place of the row. -/
theorem SWK.at2 {w0 W : World} {blk off : Nat} {dk d0 : Array (QI Q)} (h : SWK (QI.cells (Q := Q)) 2 w0 blk off dk W) (R : RowK (QI.cells (Q := Q)) 2 w0 blk off d0) (hs : dk.size = d0.size) (i : Nat) (hi : i < dk.size) :
    W.cell? ⟨blk, off + i * 2, none⟩ = some (.slice dk[i]!.1.A dk[i]!.1.row.length dk[i]!.1.k) ∧ W.cell? ⟨blk, off + i * 2 + 1, none⟩ = some (.int .i64 dk[i]!.1.n) ∧ W.frozen? ⟨blk, off + i * 2, none⟩ = false ∧ W.frozen? ⟨blk, off + i * 2 + 1, none⟩ = false := by
  have hH := h.holds R.hblk R.hH hs
  have g : ∀ j, j < 2 → W.cell? ⟨blk, off + (i * 2 + j), none⟩ = some (dk[i]!.1.cells[j]!) ∧ W.frozen? ⟨blk, off + (i * 2 + j), none⟩ = false := fun j hj => by
    have := hH (i * 2 + j) (by rw [size_flatK]; omega)
    rw [get_flatK _ _ _ _ (by omega), show (i * 2 + j) / 2 = i by omega, show (i * 2 + j) % 2 = j by omega] at this
    exact this
  have g0 := g 0 (by omega)
  have g1 := g 1 (by omega)
  rw [Nat.add_zero] at g0
  rw [← Nat.add_assoc] at g1
  exact ⟨g0.1, g1.1, g0.2, g1.2⟩

end Go.Proofs.YtmcdaibdpeeefaaGreat
/- slices.SortStableFunc at items: symMerge. -/
namespace Go.Proofs.YtmcdaibdpeeefaaGreat
set_option linter.unusedVariables false
open Go.ChangeShapes Go.WideShapes Go.ChangeAt Go.RowKit Go.Shelf Go.Lib Go.Sort
variable {Q : IR → Prop} [Inhabited (QI Q)]

end Go.Proofs.YtmcdaibdpeeefaaGreat
/- slices.SortStableFunc at items: symMerge, whole. -/
namespace Go.Proofs.YtmcdaibdpeeefaaGreat
set_option linter.unusedVariables false
open Go.ChangeShapes Go.WideShapes Go.ChangeAt Go.RowKit Go.Shelf Go.Lib Go.Sort
variable {Q : IR → Prop} [Inhabited (QI Q)]

end Go.Proofs.YtmcdaibdpeeefaaGreat
/- slices.SortStableFunc at items: the whole sort. -/
namespace Go.Proofs.YtmcdaibdpeeefaaGreat
set_option linter.unusedVariables false
open Go.ChangeShapes Go.WideShapes Go.ChangeAt Go.RowKit Go.Shelf Go.Lib Go.Sort
variable {Q : IR → Prop} [Inhabited (QI Q)]

theorem cmpLays_on {cf : QI Q → QI Q → Int} {g : Nat} {cb : Array Value} {blk off : Nat} {d0 D : Array (QI Q)} {w0 W : World} (hC : CmpLays Tryz.prog g cb (QI.cells (Q := Q)) 2 cf blk off d0.size w0) (R : RowK (QI.cells (Q := Q)) 2 w0 blk off d0) (h : SWK (QI.cells (Q := Q)) 2 w0 blk off D W) (hs : D.size = d0.size) :
    CmpLays Tryz.prog g cb (QI.cells (Q := Q)) 2 cf blk off D.size W := fun m os dk hk x y => by
  obtain ⟨m', os', e⟩ := h.on R.hblk m dk os hk
  rw [e]
  exact hC m' os' dk (hk.trans hs) x y

end Go.Proofs.YtmcdaibdpeeefaaGreat
/- The order that zset.Sum sorts by. -/
namespace Go.Proofs.YtmcdaibdpeeefaaGreat
set_option linter.unusedVariables false
open Go.ChangeShapes Go.WideShapes Go.ChangeAt Go.RowKit Go.Shelf Go.Lib Go.Sort

/-- A world of the sort's: the one that it began with, but for the row's block, and what is new. -/
theorem sortWorldK_grown {α : Type} [Inhabited α] (enc : α → List Value) (k : Nat) (w : World) (g off n : Nat) (l : Array α) (os : Array Obj) : w.grownBy (sortWorldK enc k w g off n l os) (some g) := by
  refine ⟨rfl, rfl, rfl, ?_, ?_⟩
  · unfold sortWorldK grow Sort.putRowK putRow mapBlock Sort.ahead
    simp
  · intro j hj hne
    have hne' : g ≠ j := fun e => hne (by rw [e])
    unfold sortWorldK grow Sort.putRowK putRow mapBlock Sort.ahead
    simp [Array.getElem?_append, hj, Array.getElem_modify, hne']

/-- What is asked of the items that a sort orders: their rows lie below B. -/
def RowQ (w : World) (B : Nat) (x : IR) : Prop := Row w B x.A (icells' x.row) ∧ x.row.length ≤ 9223372036854775807
instance (w : World) (B : Nat) : Inhabited (QI (RowQ w B)) := ⟨⟨⟨[], none, 0, 0⟩, Row.nil, by simp⟩⟩
def itCf {Q : IR → Prop} (x y : QI Q) : Int := cmpL x.1.row y.1.row
theorem swo_itCf {Q : IR → Prop} : SWO (ltOf (itCf (Q := Q))) where
  irrefl x := swo_it.irrefl x.1.it
  trans x y z h1 h2 := swo_it.trans x.1.it y.1.it z.1.it h1 h2
  ntrans x y z h1 h2 := swo_it.ntrans x.1.it y.1.it z.1.it h1 h2
end Go.Proofs.YtmcdaibdpeeefaaGreat
/- The stable sort over a row of items that the call owns, nil too; slices.Clone at int. -/
namespace Go.Proofs.YtmcdaibdpeeefaaGreat
set_option linter.unusedVariables false
open Go.ChangeShapes Go.WideShapes Go.ChangeAt Go.RowKit Go.Shelf Go.Lib Go.Sort

theorem zflat_flatK {α : Type} [Inhabited α] (f : α → List Value) (k : Nat) (hf : ∀ x, (f x).length = k) (hk : 0 < k) (l : List α) : (l.flatMap f).toArray = flatK f k l.toArray := by
  apply Array.ext
  · rw [List.size_toArray, flat_len hf, size_flatK, List.size_toArray]
  · intro i h1 h2
    have hi : i < l.length * k := by rw [List.size_toArray, flat_len hf] at h1; exact h1
    have hq : i / k < l.length := Nat.div_lt_of_lt_mul (by rw [Nat.mul_comm]; exact hi)
    have e := get_flatK f k l.toArray i (by rw [List.size_toArray]; exact hi)
    rw [getElem!_pos _ i h2] at e
    rw [e]
    have g := flat_get hf l (i / k) hq (i % k) (Nat.mod_lt _ hk)
    rw [Nat.div_add_mod' i k] at g
    have hl : l.toArray[i / k]! = l[i / k] := by simp [hq]
    rw [hl]
    have h3 : i % k < (f l[i / k]).length := by rw [hf]; exact Nat.mod_lt _ hk
    rw [getElem!_pos (f l[i / k]) (i % k) h3]
    have h4 : i < (l.flatMap f).length := by rw [flat_len hf]; exact hi
    rw [List.getElem?_eq_getElem h4, List.getElem?_eq_getElem h3] at g
    injection g with g
theorem take_get {cur : Array Value} {n : Nat} {xs : List Value} (h : cur.toList.take n = xs) {j : Nat} (hj : j < xs.length) : cur[j]? = xs[j]? := by
  subst h
  rw [List.getElem?_take_of_lt (by simp at hj; omega)]
  simp
theorem own_holds {α : Type} [Inhabited α] (f : α → List Value) (hf : ∀ x, (f x).length = 2) {w : World} {g : Nat} {l : List α} {cur : Array Value} {T : TypeId} (hg : w.heap[g]? = some (.cells cur T (0, 0))) (hc : cur.toList.take (l.length * 2) = l.flatMap f) : HoldsK f 2 w g 0 l.toArray := by
  intro j hj
  rw [← zflat_flatK f 2 hf (by decide)] at hj ⊢
  have hj' : j < (l.flatMap f).length := by simpa using hj
  have e := take_get hc hj'
  have e2 : (l.flatMap f).toArray[j]! = (l.flatMap f)[j] := by
    rw [getElem!_pos _ j hj]; simp
  rw [e2]
  constructor
  · rw [Nat.zero_add, cell_of_row w g j cur T (0, 0) hg, e, List.getElem?_eq_getElem hj']; rfl
  · simp [World.frozen?, hg]
theorem own_sorted {α : Type} [Inhabited α] (f : α → List Value) (hf : ∀ x, (f x).length = 2) {w : World} {B cap g n : Nat} {l' : List α} {cur : Array Value} {T : TypeId} {os : Array Obj} (hb : B ≤ g) (hg : w.heap[g]? = some (.cells cur T (0, 0))) (hcap : l'.length ≤ cap) (hm : cap ≤ maxLen) (hs : cur.size = cap * 2) :
    (sortWorldK f 2 w g 0 n l'.toArray os).ownsRow B T 2 (.slice (some ⟨g, 0, none⟩) l'.length cap) l'.length (l'.flatMap f) := by
  have hlt : g < w.heap.size := by
    rcases Nat.lt_or_ge g w.heap.size with h | h
    · exact h
    · rw [Array.getElem?_eq_none h] at hg; cases hg
  have hnew : (sortWorldK f 2 w g 0 n l'.toArray os).heap[g]? = some (.cells (putCells id 0 (flatK f 2 l'.toArray) cur) T (0, 0)) := by
    unfold sortWorldK grow Sort.putRowK putRow mapBlock Sort.ahead
    simp only [Array.getElem?_append, Array.size_modify, hlt, if_true, Array.getElem?_modify, hg, Option.map_some]
    rfl
  refine ⟨by rw [flat_len hf], .inr ⟨g, cap, _, rfl, hb, hnew, hcap, hm, by simp [putCells, hs], ?_⟩⟩
  rw [← zflat_flatK f 2 hf (by decide)]
  apply List.ext_getElem?
  intro j
  by_cases hj : j < (l'.flatMap f).length
  · have hj2 : j < l'.length * 2 := by rw [flat_len hf] at hj; exact hj
    have hjc : j < cur.size := by rw [hs]; omega
    rw [List.getElem?_take_of_lt hj2]
    simp only [putCells, Array.toList_mapIdx, List.getElem?_mapIdx]
    have : cur.toList[j]? = some cur.toList[j] := List.getElem?_eq_getElem (by simpa using hjc)
    rw [this]
    simp only [Option.map_some, Nat.zero_le, Nat.zero_add, List.size_toArray, hj, and_self, if_true, Nat.sub_zero, id]
    rw [getElem!_pos _ j (by simpa using hj), List.getElem?_eq_getElem hj]
    simp
  · rw [List.getElem?_eq_none (Nat.le_of_not_lt hj), List.getElem?_eq_none]
    rw [List.length_take]
    rw [flat_len hf] at hj
    omega

theorem perm_all {α : Type} {d d' : Array α} [Inhabited α] (h : PermIn 0 d.size d d') : d'.toList.Perm d.toList := by
  have h2 := h.2.2
  have e1 : d'.extract 0 d.size = d' := by rw [← h.1]; simp
  have e2 : d.extract 0 d.size = d := by simp
  rwa [e1, e2] at h2
theorem attach_val {Q : IR → Prop} : ∀ (L : List IR) (h : ∀ x ∈ L, Q x), (L.attachWith Q h).map Subtype.val = L := fun L h => by simp
theorem cells_val {Q : IR → Prop} (l : List (QI Q)) : l.flatMap (QI.cells (Q := Q)) = rcells (l.map Subtype.val) := by
  rw [rcells, List.flatMap_map]

theorem elem_int : Elem Tryz.prog 38 3 1 8 := ⟨Tryz.underlying38, by
  obtain ⟨i, hi, hz, hs, hb⟩ := info_parts (P := Tryz.prog) (e := 3) (z := .int .i64 0) (size := 1) (bytes := 8) (by kernel_rfl)
  exact ⟨i, _, hi, hz, hs, hb, rfl⟩, by decide⟩
end Go.Proofs.YtmcdaibdpeeefaaGreat
/- zset.Sum: each row with its weight in all, in order. -/
namespace Go.Proofs.YtmcdaibdpeeefaaGreat
set_option linter.unusedVariables false
open Go.ChangeShapes Go.WideShapes Go.ChangeAt Go.RowKit Go.Shelf Go.Lib Go.Sort

/-- A list of items, and where it lies. -/
structure LR where
  L : List IR
  A : Option Addr
  k : Nat
abbrev LR.cells (x : LR) : List Value := [.slice x.A x.L.length x.k]
theorem LR.len (x : LR) : x.cells.length = 1 := rfl
abbrev lrs (LL : List LR) : List IR := LL.flatMap LR.L
theorem Row.lr {w : World} {B : Nat} {A : Option Addr} {LL : List LR} (h : Row w B A (LL.flatMap LR.cells)) {k : Nat} (hk : k < LL.length) :
    ∃ b off, A = some ⟨b, off, none⟩ ∧ b < B ∧ w.cell? ⟨b, off + k, none⟩ = some (.slice LL[k].A LL[k].L.length LL[k].k) := by
  obtain ⟨b, off, h1, h2, h3⟩ := Row.flat LR.len h (by omega) hk
  have := h3 0 _ rfl
  rw [Nat.mul_one, Nat.add_zero] at this
  exact ⟨b, off, h1, h2, this⟩
theorem lrs_take_len (LL : List LR) (j : Nat) : (lrs (LL.take j)).length ≤ (lrs LL).length := by
  have e : lrs LL = lrs (LL.take j) ++ lrs (LL.drop j) := by rw [lrs, lrs, lrs, ← List.flatMap_append, List.take_append_drop]
  rw [e, List.length_append]; omega

theorem grp_at {L : List IR} {i n : Nat} (h : i + n < L.length) : grpSum (its L) i (n + 1) = IntKind.i64.wrap (grpSum (its L) i n + L[i + n].n) := by
  rw [grpSum, List.getElem?_eq_getElem (by rw [its_len]; exact h), Option.map_some, Option.getD_some]
  simp [its]

end Go.Proofs.YtmcdaibdpeeefaaGreat
/- slices.IndexFunc, ContainsFunc at Item; zset.Done. -/
namespace Go.Proofs.YtmcdaibdpeeefaaGreat
set_option linter.unusedVariables false
open Go.ChangeShapes Go.WideShapes Go.ChangeAt Go.RowKit
/-- What is asked of a function value: handed an element of the list, in whatever later world, it answers p, and leaves what was there. -/
def PredIt (g : Nat) (caps : Array Value) (p : IR → Bool) (L : List IR) (w : World) : Prop :=
  ∀ w', Below w.heap.size w w' → ∀ x ∈ L, Calls Tryz.prog g (#[.agg x.cells.toArray] ++ caps) w' fun e w'' => e = .returned (.bool (p x)) ∧ Below w'.heap.size w' w''
theorem any_its (M : List IR) : M.any (fun x => badB x.it) = (its M).any badB := by rw [its, List.any_map]; rfl

def DonePost (D : Int) (v : Value) (w : World) (e : Ending) (w' : World) : Prop := e = .returned (.tuple #[if D = 0 then v else .slice none 0 0, .int .i64 D]) ∧ Below w.heap.size w w'
end Go.Proofs.YtmcdaibdpeeefaaGreat
/- zset.Norm, Add; what a right set is. -/
namespace Go.Proofs.YtmcdaibdpeeefaaGreat
set_option linter.unusedVariables false
open Go.ChangeShapes Go.WideShapes Go.ChangeAt Go.RowKit


/-- Sum, Done: over lists that lie where they lay. -/
theorem lens_of {M : List IR} (h : ∀ x ∈ its M, badB x = false) : ∀ x ∈ M, x.row.length ≤ 1048576 := fun x hx => by
  have := badB_false (h x.it (List.mem_map.2 ⟨x, hx, rfl⟩))
  simp only [IR.it] at this
  omega

end Go.Proofs.YtmcdaibdpeeefaaGreat
/- stable.Meet: right contexts. -/
namespace Go.Proofs.YtmcdaibdpeeefaaGreat
set_option linter.unusedVariables false
open Go.ChangeShapes Go.WideShapes Go.ChangeAt Go.RowKit

theorem flat_cloud_len (L : List Ctx) : ∀ (N : List Ctx), (∀ c ∈ N, c.cloud.length ≤ 400) → (N.flatMap (cloudOf L)).length ≤ 400 * N.length
  | [], _ => by simp
  | c :: N, h => by
    have h1 := flat_cloud_len L N (fun x hx => h x (by simp [hx]))
    have h2 := h c (by simp)
    have h3 : (cloudOf L c).length ≤ c.cloud.length := List.length_filter_le _ _
    simp only [List.flatMap_cons, List.length_append, List.length_cons]
    omega

end Go.Proofs.YtmcdaibdpeeefaaGreat
/- stable.Settled. -/
namespace Go.Proofs.YtmcdaibdpeeefaaGreat
set_option linter.unusedVariables false
open Go.ChangeShapes Go.WideShapes Go.ChangeAt Go.RowKit

theorem tabI_zero {t : Tab} (h : tabI t = 0) : checkI t.c = 0 ∧ t.cells.length ≤ 400 ∧ ∀ i, i < t.cells.length → badCel t i = false := by
  have h1 : checkI t.c = 0 := by
    rcases Classical.em (checkI t.c = 0) with q | q
    · exact q
    · rw [tabI_ctx q] at h; exact absurd h q
  have h2 : t.cells.length ≤ 400 := by
    rcases Nat.lt_or_ge 400 t.cells.length with q | q
    · rw [tabI_large h1 q] at h; cases h
    · exact q
  refine ⟨h1, h2, fun i hi => ?_⟩
  cases q : badCel t i
  · rfl
  · rw [tabI_form h1 h2 hi q] at h; cases h
theorem meetX_len (M : List Ctx) : (meetX M).cloud.length ≤ 400 := by
  unfold meetX
  split
  · simp
  · rename_i h; simp only [not_or] at h; omega

def settledX (t : Tab) (M : List Ctx) : List Cel := if tabI t ≠ 0 ∨ meetE M ≠ 0 then [] else t.cells.filter (fun x => hasB (meetX M) x.d)
def settledE (t : Tab) (M : List Ctx) : Int := if tabI t ≠ 0 then tabI t else meetE M

end Go.Proofs.YtmcdaibdpeeefaaGreat
/- viewkeep.DotLattice: the plain law, and the walk. -/
namespace Go.Proofs.YtmcdaibdpeeefaaGreat
set_option linter.unusedVariables false
open Go.ChangeShapes Go.WideShapes Go.ChangeAt Go.RowKit

theorem two_okL {a b : Ctx} (h : twoI a b = 0) : okC a ∧ okC b ∧ a.cloud.length ≤ 400 ∧ b.cloud.length ≤ 400 := by
  obtain ⟨h1, h2⟩ := twoI_zero.1 h
  obtain ⟨h3, h4⟩ := (checkI_iff a).1 h1
  obtain ⟨h5, h6⟩ := (checkI_iff b).1 h2
  exact ⟨h3, h5, h4, h6⟩
theorem twoI_comm {a b : Ctx} : twoI a b = 0 ↔ twoI b a = 0 := by rw [twoI_zero, twoI_zero]; exact And.comm
theorem checkI_pos {a : Ctx} (h : checkI a ≠ 0) : checkI a ≠ 0 := h
/-- When a join succeeds. -/
theorem joinE_zero {a b : Ctx} : joinE a b = 0 ↔ twoI a b = 0 ∧ (joinC a b).cloud.length ≤ 400 := by
  unfold joinE
  by_cases h : twoI a b = 0
  · rw [if_neg (by simp [h])]
    by_cases h4 : 400 < (joinC a b).cloud.length
    · rw [if_pos h4]; simp; omega
    · rw [if_neg h4]; simp [h]; omega
  · rw [if_pos h]; simp [h]
theorem joinX_ok {a b : Ctx} (h : joinE a b = 0) : joinX a b = joinC a b ∧ okC a ∧ okC b ∧ okC (joinC a b) ∧ checkI (joinC a b) = 0 ∧ ∀ d, hasB (joinC a b) d = (hasB a d || hasB b d) := by
  obtain ⟨h1, h2⟩ := joinE_zero.1 h
  obtain ⟨ha, hb, -, -⟩ := two_okL h1
  obtain ⟨h3, h4⟩ := join_ok ha hb
  refine ⟨?_, ha, hb, h3, (checkI_iff _).2 ⟨h3, h2⟩, fun d => ?_⟩
  · unfold joinX; rw [if_neg (by simp [h1]), if_neg (by omega)]
  · rw [Bool.eq_iff_iff, h4, Bool.or_eq_true]
theorem joinC_comm {a b : Ctx} (ha : okC a) (hb : okC b) : joinC a b = joinC b a := by
  obtain ⟨h1, h2⟩ := join_ok ha hb
  obtain ⟨h3, h4⟩ := join_ok hb ha
  refine okC_ext h1 h3 fun d => ?_
  rw [Bool.eq_iff_iff, h2, h4]; exact Or.comm
theorem joinE_comm {a b : Ctx} : joinE a b = 0 ↔ joinE b a = 0 := by
  rw [joinE_zero, joinE_zero, twoI_comm]
  constructor <;> rintro ⟨h1, h2⟩
  · obtain ⟨hb, ha, -, -⟩ := two_okL h1
    exact ⟨h1, by rw [joinC_comm hb ha]; exact h2⟩
  · obtain ⟨hb, ha, -, -⟩ := two_okL h1
    exact ⟨h1, by rw [joinC_comm ha hb]; exact h2⟩
theorem checkI_two {a b : Ctx} (ha : checkI a = 0) (hb : checkI b = 0) : twoI a b = 0 := twoI_zero.2 ⟨ha, hb⟩
/-- What the law asks of a join that succeeds. -/
theorem lattice1 {a b : Ctx} (h : joinE a b = 0) : joinX b a = joinX a b ∧ checkI (joinX a b) = 0 ∧ twoI a (joinX a b) = 0 ∧ lessX a (joinX a b) = true ∧ (∀ d, hasB (joinX a b) d = (hasB a d || hasB b d)) ∧ lessX a b = sameB (joinX a b) b := by
  obtain ⟨e, ha, hb, hj, hc, hh⟩ := joinX_ok h
  obtain ⟨h1, h2⟩ := joinE_zero.1 h
  obtain ⟨e', -⟩ := joinX_ok (joinE_comm.1 h)
  obtain ⟨c1, c2⟩ := twoI_zero.1 h1
  have t2 : twoI a (joinC a b) = 0 := checkI_two c1 hc
  rw [e, e']
  refine ⟨joinC_comm hb ha, hc, t2, ?_, hh, ?_⟩
  · unfold lessX
    rw [if_neg (by simp [t2]), less_iff ha hj]
    intro d hd
    rw [hh, hd]; rfl
  · unfold lessX
    rw [if_neg (by simp [h1]), Bool.eq_iff_iff, sameB_iff, less_iff ha hb]
    constructor
    · intro hl
      refine okC_ext hj hb fun d => ?_
      rw [hh, Bool.eq_iff_iff, Bool.or_eq_true]
      exact ⟨fun h => h.elim (hl d) id, .inr⟩
    · intro e3 d hd
      rw [← e3, hh, hd]; rfl
theorem lattice2 {a b c : Ctx} (h : joinE a b = 0) (h1 : joinE (joinX a b) c = 0) (h2 : joinE b c = 0) (h3 : joinE a (joinX b c) = 0) : joinX (joinX a b) c = joinX a (joinX b c) := by
  obtain ⟨e1, ha, hb, hj, -, g1⟩ := joinX_ok h
  obtain ⟨e2, -, hc, hj2, -, g2⟩ := joinX_ok h1
  obtain ⟨e3, -, -, hj3, -, g3⟩ := joinX_ok h2
  obtain ⟨e4, -, -, hj4, -, g4⟩ := joinX_ok h3
  rw [e2, e4]
  refine okC_ext hj2 hj4 fun d => ?_
  rw [g2, g4, e1, e3, g1, g3, Bool.or_assoc]
theorem joinX_le (a b : Ctx) : (joinX a b).cloud.length ≤ 400 := by
  unfold joinX
  split
  · simp
  · split
    · simp
    · omega
theorem make_three : makeC [(0, 1), (0, 2), (1, 3)] = ⟨2, 0, 0, 0, [(1, 3)]⟩ ∧ makeE [(0, 1), (0, 2), (1, 3)] = 0 := by
  have hr : ([(0, 1), (0, 2), (1, 3)] : List (Int × Int)).any (fun d => !rightB d.1 d.2) = false := by decide
  have hr2 : ∀ d ∈ ([(0, 1), (0, 2), (1, 3)] : List (Int × Int)), rightB d.1 d.2 = true := by decide
  constructor
  · unfold makeC
    rw [if_neg (by decide), if_neg (by rw [hr]; simp)]
    obtain ⟨h1, h2⟩ := pack_ok (c0 := 0) (c1 := 0) (c2 := 0) (c3 := 0) (l := [(0, 1), (0, 2), (1, 3)]) (by simp [clkIn]) hr2
    refine okC_ext h1 ⟨by simp [clkIn], ?_, by simp⟩ fun d => ?_
    · intro d hd
      simp only [List.mem_singleton] at hd
      subst hd
      exact ⟨by decide, by decide⟩
    · rw [Bool.eq_iff_iff, h2, hasB_iff, hasB_iff]
      obtain ⟨n, s⟩ := d
      simp only [Ctx.at_, List.mem_cons, Prod.mk.injEq, List.not_mem_nil, or_false]
      constructor
      · rintro (⟨h0, h4, h1, h⟩ | h)
        · split at h <;> omega
        · rcases h with ⟨rfl, rfl⟩ | ⟨rfl, rfl⟩ | ⟨rfl, rfl⟩
          · left; simp
          · left; simp
          · right; exact ⟨rfl, rfl⟩
      · rintro (⟨h0, h4, h1, h⟩ | ⟨rfl, rfl⟩)
        · right
          by_cases e : n = 0
          · rw [if_pos e] at h; omega
          · rw [if_neg e] at h
            split at h <;> (try split at h) <;> omega
        · right; right; right; exact ⟨rfl, rfl⟩
  · unfold makeE
    rw [if_neg (by decide), if_neg (by rw [hr]; simp)]
end Go.Proofs.YtmcdaibdpeeefaaGreat
