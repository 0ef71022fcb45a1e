/- JnA, JnB, PnS -/
import Derived.Test.YtldlmkfigjicgaaGreatDoorIncPlaysCardS10
import Derived.Deep.RegionHeld3
import Derived.Maps.RangeWalk
/- plain.Join: the map from a column's numbers to lists of items. -/
namespace Go.Proofs.YtldlmkfigjicgaaGreatDoor
set_option linter.unusedVariables false
set_option linter.unusedSimpArgs false
open Go.ChangeShapes Go.WideShapes Go.ChangeAt Go.RowKit

def natD (n : Nat) : DataW Unit := .lit (.int .i64 (n : Int))
theorem natD_inj {a b : Nat} (h : natD a = natD b) : a = b := by
  unfold natD at h
  injection h with h
  injection h with _ h
  omega
def slD (A : Option Addr) (n c : Nat) : DataW Unit := match A with
  | none => .agg [.nil, natD n, natD c]
  | some ⟨b, off, _⟩ => .agg [.agg [natD b, natD off], natD n, natD c]
def slElem : Value → Option (DataW Unit × List MemPlace)
  | .slice none n c => some (slD none n c, [])
  | .slice (some ⟨b, off, none⟩) n c => some (slD (some ⟨b, off, none⟩) n c, [])
  | _ => none
def Plain (A : Option Addr) : Prop := ∀ b off q, A = some ⟨b, off, q⟩ → q = none
theorem slElem_mk {A : Option Addr} (h : Plain A) (n c : Nat) : slElem (.slice A n c) = some (slD A n c, []) := by
  rcases A with _ | ⟨b, off, q⟩
  · rfl
  · have := h b off q rfl
    subst this; rfl
theorem slElem_inv {v : Value} {A : Option Addr} {n c : Nat} {ps : List MemPlace} (hA : Plain A) (h : slElem v = some (slD A n c, ps)) : v = .slice A n c := by
  unfold slElem at h
  split at h
  · rename_i n' c'
    injection h with h
    injection h with h _
    rcases A with _ | ⟨b, off, q⟩
    · simp only [slD, DataW.agg.injEq, List.cons.injEq, and_true, true_and] at h
      rw [natD_inj h.1, natD_inj h.2]
    · simp [slD] at h
  · rename_i b' off' n' c'
    injection h with h
    injection h with h _
    rcases A with _ | ⟨b, off, q⟩
    · simp [slD] at h
    · have := hA b off q rfl
      subst this
      simp only [slD, DataW.agg.injEq, List.cons.injEq, and_true] at h
      rw [natD_inj h.1.1, natD_inj h.1.2, natD_inj h.2.1, natD_inj h.2.2]
  · cases h
theorem zero_sl (w : World) : (zeroValue 22).run Tryz.prog w = .ok (.slice none 0 0) w := by kernel_rfl
theorem own_plain {w : World} {B n c s : Nat} {T : TypeId} {A : Option Addr} {xs : List Value} (h : w.ownsRow B T s (.slice A n c) n xs) : Plain A := by
  intro b off q e
  rcases h.2 with ⟨e2, -⟩ | ⟨b', cap, cur, e2, -⟩
  · injection e2 with e2; rw [e2] at e; cases e
  · injection e2 with e2; rw [e2] at e; injection e with e; injection e with _ _ e; exact e.symm
theorem own_ne_grown {w w' : World} {B n s : Nat} {T : TypeId} {v : Value} {xs : List Value} (h : w.ownsRow B T s v n xs) {r : Option Nat} (hg : w.grownBy w' r) (hne : ∀ b, v.ownBlock = some b → some b ≠ r) : w'.ownsRow B T s v n xs := by
  obtain ⟨h1, h2⟩ := h
  refine ⟨h1, ?_⟩
  rcases h2 with h2 | ⟨b, cap, cur, e, hb, hgt, h3⟩
  · exact .inl h2
  · have hlt : b < w.heap.size := by
      rcases Nat.lt_or_ge b w.heap.size with h | h
      · exact h
      · rw [Array.getElem?_eq_none h] at hgt; cases hgt
    exact .inr ⟨b, cap, cur, e, hb, (hg.block b hlt (hne b (by rw [e]; rfl))).trans hgt, h3⟩

/-- The map of lists: what it says, and what its lists own. -/
def JMap (w : World) (base b n : Nat) (G : Int → List IR) (ks : List Int) : Prop :=
  ∃ (D : DataW Unit) (V : Int → Option Addr × Nat), w.ownsMap Tryz.prog 3 slElem b n D ∧ Maps.IsMap D ∧ (∀ k, Maps.has D (kI k) = decide (k ∈ ks)) ∧ (∀ k, k ∈ ks → ∀ z, D.atKey (kI k) z = slD (V k).1 (G k).length (V k).2) ∧
    (∀ k, k ∉ ks → V k = (none, 0) ∧ G k = []) ∧ (∀ k, w.ownsRow base 67 2 (.slice (V k).1 (G k).length (V k).2) (G k).length (rcells (G k))) ∧
    (∀ k k' g, k ≠ k' → (Value.slice (V k).1 (G k).length (V k).2).ownBlock = some g → (Value.slice (V k').1 (G k').length (V k').2).ownBlock ≠ some g) ∧ b < base
theorem JMap.made (w : World) : JMap (w.alloc (.map #[] 0)) (w.heap.size + 1) w.heap.size 0 (fun _ => []) [] :=
  ⟨.map [], fun _ => (none, 0), World.ownsMap_made _ _ _ _, Maps.isMap_empty, fun k => rfl, fun k h => by simp at h, fun k _ => ⟨rfl, rfl⟩, fun k => World.ownsRow_nil _ _ _ _, fun k k' g _ h => by simp [Value.ownBlock] at h, Nat.lt_succ_self _⟩
theorem JMap.grown {w w' : World} {base b n : Nat} {G : Int → List IR} {ks : List Int} (h : JMap w base b n G ks) (hb : Below w.heap.size w w') : JMap w' base b n G ks := by
  obtain ⟨D, V, h1, h2, h3, h4, h5, h6, h7, h8⟩ := h
  have hlt := h1.lt
  exact ⟨D, V, h1.kept (grown_of_below hb) (by simp), h2, h3, h4, h5, fun k => own_laterS (h6 k) hb, h7, h8⟩
theorem JMap.lt {w : World} {base b n : Nat} {G : Int → List IR} {ks : List Int} (h : JMap w base b n G ks) : b < w.heap.size ∧ b < base := by
  obtain ⟨D, V, h1, -, -, -, -, -, -, h8⟩ := h
  exact ⟨h1.lt, h8⟩
theorem JMap.atKey {D : DataW Unit} {V : Int → Option Addr × Nat} {G : Int → List IR} {ks : List Int} (h3 : ∀ k, Maps.has D (kI k) = decide (k ∈ ks)) (h4 : ∀ k, k ∈ ks → ∀ z, D.atKey (kI k) z = slD (V k).1 (G k).length (V k).2) (h5 : ∀ k, k ∉ ks → V k = (none, 0) ∧ G k = []) (k : Int) :
    D.atKey (kI k) (slD none 0 0) = slD (V k).1 (G k).length (V k).2 := by
  by_cases q : k ∈ ks
  · exact h4 k q _
  · obtain ⟨e1, e2⟩ := h5 k q
    rw [e1, e2]
    exact Maps.atKey_of_not_has (by rw [h3]; simpa using q) _
/-- What a look-up hands over, and the way back: whatever is done from here to the slice's own row and to new blocks, a store at the key restores the map. -/
theorem JMap.look {w : World} {base b n : Nat} {G : Int → List IR} {ks : List Int} (h : JMap w base b n G ks) {k : Int} (hk : -9223372036854775808 ≤ k ∧ k ≤ 9223372036854775807) :
    ∃ (A : Option Addr) (c : Nat) (D : DataW Unit), w.ownsMap Tryz.prog 3 slElem b n D ∧ (∀ w1 : World, Below w.heap.size w w1 → (Instr.lookup 142 (.map (some b)) (.int .i64 k) false).run Tryz.prog w1 = .ok (.slice A (G k).length c) w1) ∧
      w.ownsRow base 67 2 (.slice A (G k).length c) (G k).length (rcells (G k)) ∧
      ∀ (w1 : World) (A' : Option Addr) (c' : Nat) (L : List IR), w.grownBy w1 (Value.slice A (G k).length c).ownBlock → w1.ownsRow base 67 2 (.slice A' L.length c') L.length (rcells L) →
        ((Value.slice A' L.length c').ownBlock = (Value.slice A (G k).length c).ownBlock ∨ ∃ g, (Value.slice A' L.length c').ownBlock = some g ∧ w.heap.size ≤ g) →
        ∀ w2, w1.grownBy w2 (some b) → w2.ownsMap Tryz.prog 3 slElem b (n + 1) (D.put (kI k) (slD A' L.length c')) → JMap w2 base b (n + 1) (fun q => if q = k then L else G q) (k :: ks) := by
  obtain ⟨D, V, h1, h2, h3, h4, h5, h6, h7, h8⟩ := h
  refine ⟨(V k).1, (V k).2, D, h1, fun w1 hw => ?_, h6 k, fun w1 A' c' L hg ho hloc w2 hg2 hm => ?_⟩
  · have h1' : w1.ownsMap Tryz.prog 3 slElem b n D := h1.kept (grown_of_below hw) (by simp)
    obtain ⟨v, ps, hrun, hv⟩ := h1'.lookup int_law Tryz.underlying142 (zero_sl w1) (slElem_mk (fun _ _ _ e => by cases e) 0 0) (keyOf_I hk)
    rw [JMap.atKey h3 h4 h5 k] at hv
    rw [slElem_inv (own_plain (h6 k)) hv] at hrun
    exact hrun
  · have hlt := h1.lt
    refine ⟨_, fun q => if q = k then (A', c') else V q, hm, h2.put _ _, fun q => ?_, fun q hq z => ?_, fun q hq => ?_, fun q => ?_, fun q q' g hne hg' => ?_, h8⟩
    · by_cases e : q = k
      · subst e
        rw [Maps.has_put_same h2 (isKeyI _)]
        simp
      · rw [Maps.has_put_other (kI_ne e), h3]
        simp [e]
    · by_cases e : q = k
      · subst e
        simp only [if_true]
        exact Maps.atKey_put_same h2 (isKeyI _) _ _
      · simp only [if_neg e]
        rw [Maps.atKey_put_other (kI_ne e)]
        exact h4 q ((List.mem_cons.1 hq).resolve_left e) z
    · have e : q ≠ k := fun e => hq (by rw [e]; simp)
      simp only [if_neg e]
      exact h5 q fun h => hq (by simp [h])
    · by_cases e : q = k
      · subst e
        simp only [if_true]
        exact own_ne_grown ho hg2 fun b' hb' e => by
          injection e with e
          have := (ho.lt b' hb').1
          omega
      · simp only [if_neg e]
        refine own_ne_grown (own_ne_grown (h6 q) hg fun b' hb' => ?_) hg2 fun b' hb' e => ?_
        · exact fun e2 => h7 q k b' e hb' e2.symm
        · injection e with e
          have := ((h6 q).lt b' hb').1
          omega
    · have key : ∀ q, q ≠ k → ∀ g, (Value.slice (V q).1 (G q).length (V q).2).ownBlock = some g → (Value.slice A' L.length c').ownBlock ≠ some g := by
        intro q hq g hg1 hg2'
        rcases hloc with e | ⟨g', e, hge⟩
        · rw [e] at hg2'
          exact h7 q k g hq hg1 hg2'
        · rw [e] at hg2'
          injection hg2' with hg2'
          have := ((h6 q).lt g hg1).2
          omega
      by_cases e : q = k
      · subst e
        have e' : q' ≠ q := fun e => hne e.symm
        simp only [if_true] at hg'
        simp only [if_neg e']
        exact fun h => key q' e' g h hg'
      · simp only [if_neg e] at hg'
        by_cases e' : q' = k
        · subst e'
          simp only [if_true]
          exact key q e g hg'
        · simp only [if_neg e']
          exact h7 q q' g hne hg'

end Go.Proofs.YtldlmkfigjicgaaGreatDoor
/- plain.Join: the walk of its first loop; words for the rest. -/
namespace Go.Proofs.YtldlmkfigjicgaaGreatDoor
set_option linter.unusedVariables false
set_option linter.unusedSimpArgs false
open Go.ChangeShapes Go.WideShapes Go.ChangeAt Go.RowKit

set_option maxHeartbeats 400000 in
set_option maxRecDepth 100000 in
theorem cloneO_any (l : List Int) (A : Option Addr) (c : Nat) (w : World) (hr : Row w w.heap.size A (icells' l)) (hl : l.length ≤ 1048576) :
    Calls Tryz.prog 40 #[.slice A l.length c] w (OwnPost 3 1 l.length (icells' l) w) := by
  rcases A with _ | ad
  · have he : l = [] := by
      rcases hr with h | ⟨b, off, h, _⟩
      · simpa using h
      · cases h
    subst he
    have hnil := fun (w : World) => Lib.run_eql_slice_nil w (P := Tryz.prog) (t := 30) (e := 3) none 0 c 0 0 Tryz.underlying30
    go_enter Tryz.func40, Tryz.ntmps40
    go_wp2
    go_ret
    exact ⟨_, rfl, World.ownsRow_nil _ _ _ _, Below.refl _ _⟩
  · have hnil := fun (w : World) => Lib.run_eql_slice_nil w (P := Tryz.prog) (t := 30) (e := 3) (some ad) l.length c 0 0 Tryz.underlying30
    have HR := hid hr
    clear hr
    go_enter Tryz.func40, Tryz.ntmps40
    go_wp2_with (at_builtin; refine wpList_append_row elem_int rfl _ _ rfl w.heap.size (.slice (some ⟨w.heap.size, 0, none⟩) 0 0) 0 [] rfl (World.ownsRow_made w #[] 0 (Nat.le_refl _) (by decide) rfl) (some ad) l.length c w.heap.size (icells' l) rfl ?_ (HR.out.below (Below.alloc (Below.refl _ _) (Nat.le_refl _) _) (Nat.le_refl _)) ?_ ?_ ?_ ?_ ?_; rotate_right; intro v1 w1 hown1 hg1 hat1; rotate_left; (simp); (exact icellsQ_one l); (simp only [maxLen]; omega); (omega); (simp))
    go_ret
    refine ⟨_, rfl, by simpa using hown1, ((Below.refl _ _).alloc (Nat.le_refl _) _).grown hg1 (by simp) (fun k hk => ?_)⟩
    simp [Value.ownBlock] at hk
    omega

theorem two_one (A : Option Addr) (n c : Nat) (p : Int) : ∀ u ∈ ([.slice A n c, .int .i64 p] : List Value), u.oneCell' = true := by
  intro u hu
  simp only [List.mem_cons, List.not_mem_nil, or_false] at hu
  rcases hu with rfl | rfl <;> rfl
theorem RowsNew.grownNe {w w' : World} {lo : Nat} {v : Value} {M : List IR} {r : Option Nat} (h : RowsNew w lo v M) (hg : w.grownBy w' r) (hr : ∀ x ∈ M, ∀ b off q, x.A = some ⟨b, off, q⟩ → some b ≠ r) : RowsNew w' lo v M := fun x hx => by
  obtain ⟨h1, h2, h3, h4⟩ := h x hx
  exact ⟨h1.grown_ne (Nat.le_refl _) hg (hr x hx), h2, fun b off q e => ⟨(h3 b off q e).1, Nat.lt_of_lt_of_le (h3 b off q e).2 hg.size⟩, h4⟩
/-- What a join makes of one item: each pair that fits. -/
def pairL (xr : List Int) (xn : Int) (L : List IR) : List It := L.map (fun y => (xr ++ y.row, wrp (xn * y.n)))
theorem pairL_succ (xr : List Int) (xn : Int) (L : List IR) (j : Nat) (h : j < L.length) : pairL xr xn (L.take (j + 1)) = pairL xr xn (L.take j) ++ [(xr ++ L[j].row, wrp (xn * L[j].n))] := by
  unfold pairL; rw [List.take_succ_eq_append_getElem h, List.map_append]; rfl
/-- What a join asks of its lists. -/
def JoinOk (s : St) (A B : List It) : Prop :=
  0 ≤ s.col ∧ 0 ≤ s.val ∧ (∀ y ∈ A, s.col < (y.1.length : Int) ∧ y.1.length ≤ 8 ∧ (∀ z ∈ y.1, -1073741824 ≤ z ∧ z ≤ 1073741824) ∧ -2097152 ≤ y.2 ∧ y.2 ≤ 2097152) ∧
    ∀ y ∈ B, s.val < (y.1.length : Int) ∧ y.1.length ≤ 8 ∧ (∀ z ∈ y.1, -1073741824 ≤ z ∧ z ≤ 1073741824) ∧ -2097152 ≤ y.2 ∧ y.2 ≤ 2097152
def grpJ (v : Nat) (M : List IR) (k : Int) : List IR := M.filter (fun y => decide (colD y.row (v : Int) = k))
theorem grpJ_snoc (v : Nat) (M : List IR) (y : IR) : grpJ v (M ++ [y]) = fun k => if k = colD y.row v then grpJ v M (colD y.row v) ++ [y] else grpJ v M k := by
  funext k
  unfold grpJ
  rw [List.filter_append, List.filter_cons, List.filter_nil]
  by_cases e : k = colD y.row v
  · subst e; simp
  · rw [if_neg e]
    have : decide (colD y.row (v : Int) = k) = false := decide_eq_false fun h => e h.symm
    simp [this]
theorem grpJ_len (v : Nat) (M : List IR) (k : Int) : (grpJ v M k).length ≤ M.length := List.length_filter_le _ _

set_option maxHeartbeats 1000000 in
set_option maxRecDepth 100000 in
theorem join_own (x : SR) (M1 M2 : List IR) (A1 A2 : Option Addr) (c1 c2 : Nat) (w : World) (h1 : RowI w w.heap.size A1 M1) (l1 : M1.length ≤ 800) (h2 : RowI w w.heap.size A2 M2) (l2 : M2.length ≤ 800) (hok : JoinOk x.st (its M1) (its M2)) :
    Calls Tryz.prog 85 #[.agg x.cells.toArray, .slice A1 M1.length c1, .slice A2 M2.length c2] w (ItsPost (joinL x.st (its M1) (its M2)) w) := by
  obtain ⟨⟨sk, sa, sb, sc, so, sv, sl⟩, sA, sK⟩ := x
  obtain ⟨hc0, hv0, hO1, hO2⟩ := hok
  simp only at hc0 hv0 hO1 hO2
  obtain ⟨jc, rfl⟩ : ∃ j : Nat, sc = (j : Int) := ⟨sc.toNat, by omega⟩
  obtain ⟨jv, rfl⟩ : ∃ j : Nat, sv = (j : Int) := ⟨sv.toNat, by omega⟩
  have HR1 := hid h1
  have HR2 := hid h2
  have HM1 := hid (fun y (hy : y ∈ M1) => hO1 y.it (List.mem_map.2 ⟨y, hy, rfl⟩))
  have HM2 := hid (fun y (hy : y ∈ M2) => hO2 y.it (List.mem_map.2 ⟨y, hy, rfl⟩))
  have HX := hid (show joinL ⟨sk, sa, sb, (jc : Int), so, (jv : Int), sl⟩ (its M1) (its M2) = (its M1).flatMap (fun x => ((its M2).filter (fun y => decide (colD y.1 (jv : Int) = colD x.1 (jc : Int)))).map (fun y => (x.1 ++ y.1, wrp (x.2 * y.2)))) from rfl)
  simp only [SR.cells]
  obtain ⟨X, hX⟩ : ∃ X, X = joinL ⟨sk, sa, sb, (jc : Int), so, (jv : Int), sl⟩ (its M1) (its M2) := ⟨_, rfl⟩
  rw [← hX] at HX ⊢
  clear hX h1 h2 hO1 hO2 hc0 hv0
  obtain ⟨W1, hW1⟩ : ∃ W1 : World, W1 = w.alloc (.cells #[.int .i64 sk, .int .i64 sa, .int .i64 sb, .int .i64 (jc : Int), .int .i64 so, .int .i64 (jv : Int), .slice sA sl.length sK] 89) := ⟨_, rfl⟩
  have HXS := hid (show Blk W1 w.heap.size #[.int .i64 sk, .int .i64 sa, .int .i64 sb, .int .i64 (jc : Int), .int .i64 so, .int .i64 (jv : Int), .slice sA sl.length sK] 89 by rw [hW1]; exact Blk.new _ _ _)
  have HB1 := hid (show Below w.heap.size w W1 by rw [hW1]; (repeat' (first | (with_reducible exact Below.refl _ _) | (with_reducible assumption) | (with_reducible refine below_drewN ?_ _) | (with_reducible refine Below.drew ?_) | (with_reducible refine Below.alloc ?_ ?_ _) | (with_reducible refine Below.setCell ?_ ?_ _) | (refine Below.trans ?_ (Below.mono (by assumption) ?_)) | go_size)))
  have hs1 := HB1.out.size
  have hmm := @run_makeMap Tryz.prog
  have HOM := hid (JMap.made W1)
  have HBM := hid ((Below.refl W1.heap.size W1).alloc (Nat.le_refl _) (.map #[] 0))
  go_enter Tryz.func85, Tryz.ntmps85
  go_upto_region 1 with fail
  rw [← hW1]
  clear hW1
  go_wp2_with fail
  -- STOP-a
  go_loopw [18] (fun s18 wr => ∃ (i : Nat) (ks : List Int), i ≤ M2.length ∧ s18 = .int .i64 i ∧ Hid (JMap wr (W1.heap.size + 1) W1.heap.size i (grpJ jv (M2.take i)) ks) ∧ Hid (Below W1.heap.size W1 wr)) (fun s18 _ => M2.length - (intOf s18).toNat)
  case atStart => exact ⟨0, [], by omega, rfl, HOM.out, HBM⟩
  case round =>
    clear HOM HBM
    obtain ⟨i, ks, hi, rfl, HJM, HB⟩ := hrel
    have hsw := HB.out.size
    have HBW := hid (Below.step' HB1.out HB.out)
    have hmk := HJM.out.lt.1
    by_cases hlt : i < M2.length
    · obtain ⟨b, off, rfl, hb, e0, e1⟩ := (HR2.out.1.step HBW.out).it hlt
      have HYR := hid ((HR2.out.2 M2[i] (List.getElem_mem hlt)).1)
      obtain ⟨q1, q2, q3, q4⟩ := HM2.out M2[i] (List.getElem_mem hlt)
      have HTK := hid (show grpJ jv (M2.take (i + 1)) = _ from (List.take_succ_eq_append_getElem hlt) ▸ grpJ_snoc jv (M2.take i) M2[i])
      have HGL := hid (Nat.le_trans (grpJ_len jv (M2.take i) (colD M2[i].row jv)) (List.length_take_le _ _))
      try simp only [IR.it] at q1 q2 q3 q4
      generalize M2[i] = y at *
      obtain ⟨yr, yA, yk, yn⟩ := y
      simp only at e0 e1 HYR q1 q2 q3 q4 HTK HGL
      have hj : jv < yr.length := by omega
      obtain ⟨b2, o2, rfl, hb2, hv2⟩ := HYR.out.int' hj
      rw [colD_get hj] at HTK HGL
      have hkin := q3 yr[jv] (List.getElem_mem hj)
      generalize yr[jv] = key at *
      obtain ⟨wo, rfl⟩ : ∃ wx : World, wx = wr := ⟨_, rfl⟩
      have HXO := hid (HXS.out.step HB.out)
      have hneb : (b = wo.heap.size) = False := by simp; omega
      have hjl : (jv : Int) < (yr.length : Int) := by omega
      obtain ⟨Ag, cg, D, hom, hrun, hown, hback⟩ := HJM.out.look (k := key) (by omega)
      have HBACK := hid hback
      obtain ⟨g, hg⟩ : ∃ g, g = grpJ jv (M2.take i) := ⟨_, rfl⟩
      rw [← hg] at HTK HGL HBACK HJM hrun hown
      have hgl := HGL.out
      have HX2 := hid (Blk.new wo #[.slice (some ⟨b2, o2, none⟩) yr.length yk, .int .i64 yn] 67)
      have HB2 := hid (alloc_below (Below.refl wo.heap.size wo) (.cells #[.slice (some ⟨b2, o2, none⟩) yr.length yk, .int .i64 yn] 67))
      obtain ⟨W2, hW2⟩ : ∃ W2 : World, W2 = wo.alloc (.cells #[.slice (some ⟨b2, o2, none⟩) yr.length yk, .int .i64 yn] 67) := ⟨_, rfl⟩
      rw [← hW2] at HX2 HB2
      have HW2 := hid hW2
      clear hW2 hg hback
      have hs2 := HB2.out.size
      have hws : w.heap.size ≤ W2.heap.size := Nat.le_trans HBW.out.size hs2
      have hv3 := ((bcell (Below.step' HBW.out HB2.out)).1 b2 _ hb2).trans hv2
      have hb3 : b2 < W2.heap.size := by omega
      have hbx : wo.heap.size < W2.heap.size := HX2.out.lt
      have hws2 : w.heap.size < W2.heap.size := by have := HXS.out.lt; omega
      have HXO2 := hid (HXO.out.step HB2.out)
      have HBA := hid (show Below W2.heap.size W2 ((W2.alloc (.cells #[.slice (some ⟨b2, o2, none⟩) yr.length yk, .int .i64 yn] 67)).drew) from (alloc_below (Below.refl W2.heap.size W2) _).drew)
      have HRUA := hid (hrun W2.drew HB2.out.drew)
      have HRUB := hid (hrun ((W2.alloc (.cells #[.slice (some ⟨b2, o2, none⟩) yr.length yk, .int .i64 yn] 67)).drew) (Below.step' HB2.out HBA.out))
      have HOA := hid (own_laterS (own_laterS hown HB2.out) HBA.out)
      have HMA := hid ((hom.kept (grown_of_below HB2.out) (by simp)).kept (grown_of_below HBA.out) (by simp))
      have HOL := hid (fun q (e : (Value.slice Ag (g key).length cg).ownBlock = some q) => hown.lt q e)
      have hgw0 := (World.grownBy_alloc wo (.cells #[.slice (some ⟨b2, o2, none⟩) yr.length yk, .int .i64 yn] 67) (Value.slice Ag (g key).length cg).ownBlock)
      rw [← HW2.out] at hgw0
      have HGW := hid (hgw0.trans (show W2.grownBy ((W2.alloc (.cells #[.slice (some ⟨b2, o2, none⟩) yr.length yk, .int .i64 yn] 67)).drew) (Value.slice Ag (g key).length cg).ownBlock from ⟨HBA.out.os, HBA.out.tape, HBA.out.output, HBA.out.size, fun k hk _ => HBA.out.block k hk⟩))
      clear hom hrun hown hgw0
      go_upto_region 5 with fail
      rw [← HW2.out]
      clear e0 e1 hneb hv2
      obtain ⟨cHX2, fHX2, sHX2, nHX2⟩ := HX2.out.all
      try simp only [cbox] at cHX2
      obtain ⟨cHXO2, fHXO2, sHXO2, nHXO2⟩ := HXO2.out.all
      try simp only [cbox] at cHXO2
      have hone : ∀ u ∈ ([.slice (some ⟨b2, o2, none⟩) yr.length yk, .int .i64 yn] : List Value), u.oneCell' = true := by
        intro u hu
        simp only [List.mem_cons, List.not_mem_nil, or_false] at hu
        rcases hu with rfl | rfl <;> rfl
      have HSL := hid (fun (A : Option Addr) (c : Nat) (h : Plain A) => slElem_mk h ((g key).length + 1) c)
      have hmx : (g key).length + 1 ≤ maxLen := by simp only [maxLen]; omega
      have hby : ((g key).length + 1) * 32 ≤ 140737488355328 := by omega
      have hbs : W1.heap.size + 1 ≤ ((W2.alloc (.cells #[.slice (some ⟨b2, o2, none⟩) yr.length yk, .int .i64 yn] 67)).drew).heap.size := by have := HBA.out.size; omega
      have hnm : some W1.heap.size ≠ (Value.slice Ag (g key).length cg).ownBlock := fun e => by have := (HOL.out _ e.symm).1; omega
      have hnx : some wo.heap.size = (Value.slice Ag (g key).length cg).ownBlock → False := fun e => by have := (HOL.out _ e.symm).2; omega
      have hnw : some w.heap.size = (Value.slice Ag (g key).length cg).ownBlock → False := fun e => by have := (HOL.out _ e.symm).1; omega
      have hnb : some b2 = (Value.slice Ag (g key).length cg).ownBlock → False := fun e => by have := (HOL.out _ e.symm).1; omega
      have hbxA : wo.heap.size < ((W2.alloc (.cells #[.slice (some ⟨b2, o2, none⟩) yr.length yk, .int .i64 yn] 67)).drew).heap.size := Nat.lt_of_lt_of_le hbx HBA.out.size
      have hbwA : w.heap.size < ((W2.alloc (.cells #[.slice (some ⟨b2, o2, none⟩) yr.length yk, .int .i64 yn] 67)).drew).heap.size := Nat.lt_of_lt_of_le hws2 HBA.out.size
      have hb2A : b2 < ((W2.alloc (.cells #[.slice (some ⟨b2, o2, none⟩) yr.length yk, .int .i64 yn] 67)).drew).heap.size := Nat.lt_of_lt_of_le hb3 HBA.out.size
      have kA1 : ∀ o, ((W2.alloc (.cells #[.slice (some ⟨b2, o2, none⟩) yr.length yk, .int .i64 yn] 67)).drew).cell? ⟨wo.heap.size, o, none⟩ = W2.cell? ⟨wo.heap.size, o, none⟩ := fun o => (bcell HBA.out).1 _ _ hbx
      have kA2 : ∀ o, ((W2.alloc (.cells #[.slice (some ⟨b2, o2, none⟩) yr.length yk, .int .i64 yn] 67)).drew).cell? ⟨w.heap.size, o, none⟩ = W2.cell? ⟨w.heap.size, o, none⟩ := fun o => (bcell HBA.out).1 _ _ hws2
      have kA3 : ∀ o, ((W2.alloc (.cells #[.slice (some ⟨b2, o2, none⟩) yr.length yk, .int .i64 yn] 67)).drew).cell? ⟨b2, o, none⟩ = W2.cell? ⟨b2, o, none⟩ := fun o => (bcell HBA.out).1 _ _ hb3
      have hnlt : i < maxLen := by simp only [maxLen]; omega
      have hkk := keyOf_I (k := key) (by omega)
      have hms : wo.heap.size ≠ W1.heap.size := by omega
      have hms2 : w.heap.size ≠ W1.heap.size := by have := HXS.out.lt; omega
      have hms3 : b2 ≠ W1.heap.size := by omega
      have hra := HRUA.out
      have hrb := HRUB.out
      -- STOP-b
      go_region_held3 (fun w' => (∀ o, w'.cell? ⟨wo.heap.size, o, none⟩ = W2.cell? ⟨wo.heap.size, o, none⟩) ∧ (∀ o, w'.cell? ⟨w.heap.size, o, none⟩ = W2.cell? ⟨w.heap.size, o, none⟩) ∧ (∀ o, w'.cell? ⟨b2, o, none⟩ = W2.cell? ⟨b2, o, none⟩))
        ((go_split_ands; first | (with_reducible exact ⟨fun _ => rfl, fun _ => rfl, fun _ => rfl⟩) | (with_reducible exact ⟨kA1, kA2, kA3⟩) | (with_reducible exact ⟨k71, k72, k73⟩) | (with_reducible exact ⟨k81, k82, k83⟩)))
        (first
          | (go_split_ands; refine step_append_row elem_item (by rfl) _ _ (by rfl) (W1.heap.size + 1) (.slice Ag (g key).length cg) (g key).length (rcells (g key)) (by rfl) HOA.out (some ⟨W2.heap.size, 0, none⟩) 1 1 (W2.heap.size + 1) [.slice (some ⟨b2, o2, none⟩) yr.length yk, .int .i64 yn] (by rfl) (by rfl) (Row.new' W2 _ _ rfl rfl (Nat.lt_succ_self _)).drew hone hmx hby hbs ?_; intro v7 w7 hown7 hg7 hif7; obtain ⟨A7, c7, rfl⟩ := own_formS hown7; have hom7 := HMA.out.kept hg7 hnm; obtain ⟨w8, hrun8, hown8, hg8⟩ := hom7.update int_law Tryz.underlying142 hnlt hkk (HSL.out A7 c7 (own_plain hown7)); have k71 := fun o => (keepG hg7 hbxA hnx o).trans (kA1 o); have k72 := fun o => (keepG hg7 hbwA hnw o).trans (kA2 o); have k73 := fun o => (keepG hg7 hb2A hnb o).trans (kA3 o); have hsz7 := hg7.size; have k81 := fun o => (keepG hg8 (Nat.lt_of_lt_of_le hbxA hsz7) (fun e => hms (Option.some.inj e)) o).trans (k71 o); have k82 := fun o => (keepG hg8 (Nat.lt_of_lt_of_le hbwA hsz7) (fun e => hms2 (Option.some.inj e)) o).trans (k72 o); have k83 := fun o => (keepG hg8 (Nat.lt_of_lt_of_le hb2A hsz7) (fun e => hms3 (Option.some.inj e)) o).trans (k73 o)))
      -- STOP-c
      all_goals
        go_wp2
        have HO7 := hid hown7
        have HG7 := hid hg7
        have HIF := hid hif7
        have HO8 := hid hown8
        have HG8 := hid hg8
        clear hown7 hg7 hif7 hown8 hg8 hom7 k71 k72 k73 k81 k82 k83 hone
        go_roundw
        case rel =>
          have hL : (g key ++ [(⟨yr, some ⟨b2, o2, none⟩, yk, yn⟩ : IR)]).length = (g key).length + 1 := by simp
          have hgw := HGW.out.trans HG7.out
          have hown : w7.ownsRow (W1.heap.size + 1) 67 2 (.slice A7 (g key ++ [(⟨yr, some ⟨b2, o2, none⟩, yk, yn⟩ : IR)]).length c7) (g key ++ [(⟨yr, some ⟨b2, o2, none⟩, yk, yn⟩ : IR)]).length (rcells (g key ++ [(⟨yr, some ⟨b2, o2, none⟩, yk, yn⟩ : IR)])) := by
            rw [hL, rcells_app]; exact HO7.out
          have hJ := HBACK.out w7 A7 c7 _ hgw hown (by
            rw [hL]
            rcases HIF.out with e | e
            · exact .inl e
            · exact .inr ⟨_, e, by have := HBA.out.size; omega⟩) w8 HG8.out (by rw [hL]; exact HO8.out)
          refine ⟨i + 1, key :: ks, by omega, by go_num, hid ?_, hid ?_⟩
          · rw [HTK.out]
            have e2 : (fun k => if k = key then g key ++ [(⟨yr, some ⟨b2, o2, none⟩, yk, yn⟩ : IR)] else g k) = fun q => if q = key then g key ++ [(⟨yr, some ⟨b2, o2, none⟩, yk, yn⟩ : IR)] else g q := rfl
            exact hJ
          · exact ((HB.out.trans ((Below.step' HB2.out HBA.out).mono hsw)).grown HG7.out (by have := HBA.out.size; omega) (fun q e => by have := (HOL.out _ e).1; omega)).grown HG8.out (by have := HBA.out.size; have := HG7.out.size; omega) (fun q e => by injection e with e; omega)
        case measure => simp [intOf]; omega
    · have hik : i = M2.length := by omega
      subst hik
      rw [List.take_length] at HJM
      clear hi hlt
      have HXP := hid (show X = M1.flatMap (fun x => pairL x.row x.n (grpJ jv M2 (colD x.row jc))) by
        rw [HX.out, its, List.flatMap_map]
        congr 1
        funext x
        unfold pairL grpJ
        rw [List.filter_map, List.map_map]; rfl)
      obtain ⟨g, hg⟩ : ∃ g, g = grpJ jv M2 := ⟨_, rfl⟩
      have HGS := hid (fun k y (hy : y ∈ g k) => show y ∈ M2 by rw [hg] at hy; exact (List.mem_filter.1 hy).1)
      have HGL := hid (fun k => show (g k).length ≤ 800 by rw [hg]; exact Nat.le_trans (grpJ_len _ _ _) l2)
      rw [← hg] at HJM HXP
      clear hg HX
      obtain ⟨Wm, rfl⟩ : ∃ wx : World, wx = wr := ⟨_, rfl⟩
      have HXM := hid (HXS.out.step HB.out)
      have HLK := hid (fun k (hk : -9223372036854775808 ≤ k ∧ k ≤ 9223372036854775807) => show ∃ (A : Option Addr) (c : Nat), (∀ w1 : World, Below Wm.heap.size Wm w1 → (Instr.lookup 142 (.map (some W1.heap.size)) (.int .i64 k) false).run Tryz.prog w1 = .ok (.slice A (g k).length c) w1) ∧ Row Wm Wm.heap.size A (rcells (g k)) by
        obtain ⟨A, c, D, -, h2, h3, -⟩ := HJM.out.look hk
        exact ⟨A, c, h2, Row.of_ownS h3⟩)
      clear HJM hmk HXS
      go_wp2_with fail
      -- STOP-d
      go_loopw [10, 43] (fun s10 s43 wr => ∃ (i : Nat) (S : List IR), i ≤ M1.length ∧ s43 = .int .i64 i ∧ S.length ≤ i * 800 ∧ Hid (its S = (M1.take i).flatMap (fun x => pairL x.row x.n (g (colD x.row jc)))) ∧ Hid (wr.ownsRow Wm.heap.size 67 2 s10 S.length (rcells S)) ∧ Hid (RowsNew wr Wm.heap.size s10 S) ∧ Hid (Below Wm.heap.size Wm wr)) (fun _ s43 _ => M1.length - (intOf s43).toNat)
      case atStart => exact ⟨0, [], by omega, rfl, by simp, hid rfl, hid (World.ownsRow_nil _ _ _ _), hid (RowsNew.nil _ _ _), hid (Below.refl _ _)⟩
      case round =>
        obtain ⟨i, S, hi, rfl, hSl, HIS, HOWN, HNEW, HBO⟩ := hrel
        obtain ⟨A10, c10, rfl⟩ := own_formS HOWN.out
        have hso := HBO.out.size
        have HBWO := hid (Below.step' HBW.out HBO.out)
        by_cases hlt : i < M1.length
        · obtain ⟨b, off, rfl, hb, e0, e1⟩ := (HR1.out.1.step HBWO.out).it hlt
          have HXR := hid ((HR1.out.2 M1[i] (List.getElem_mem hlt)).1)
          obtain ⟨q1, q2, q3, q4⟩ := HM1.out M1[i] (List.getElem_mem hlt)
          have HST := hid (show (M1.take (i + 1)).flatMap (fun x => pairL x.row x.n (g (colD x.row jc))) = (M1.take i).flatMap (fun x => pairL x.row x.n (g (colD x.row jc))) ++ pairL M1[i].row M1[i].n (g (colD M1[i].row jc)) by
            rw [List.take_succ_eq_append_getElem hlt, List.flatMap_append]; simp)
          try simp only [IR.it] at q1 q2 q3 q4
          generalize M1[i] = x at *
          obtain ⟨xr, xA, xk, xn⟩ := x
          simp only at e0 e1 HXR q1 q2 q3 q4 HST
          have hj : jc < xr.length := by omega
          obtain ⟨b2, o2, rfl, hb2, hv2⟩ := HXR.out.int' hj
          rw [colD_get hj] at HST
          have hkin := q3 xr[jc] (List.getElem_mem hj)
          generalize xr[jc] = key at *
          obtain ⟨wo, rfl⟩ : ∃ wx : World, wx = wr := ⟨_, rfl⟩
          have hneb : (b = wo.heap.size) = False := by simp; omega
          have hjl : (jc : Int) < (xr.length : Int) := by omega
          obtain ⟨Ag, cg, hrun, hrow⟩ := HLK.out key (by omega)
          have hgl := HGL.out key
          have hgs := HGS.out key
          obtain ⟨L, hL⟩ : ∃ L, L = g key := ⟨_, rfl⟩
          rw [← hL] at HST hrun hrow hgl hgs
          have HGK := hid hgs
          have HRW := hid hrow
          obtain ⟨P, hP⟩ : ∃ P, P = (M1.take i).flatMap (fun x => pairL x.row x.n (g (colD x.row jc))) := ⟨_, rfl⟩
          rw [← hP] at HIS HST
          clear hL hgs hrow hP
          have HX3 := hid (Blk.new wo #[.slice (some ⟨b2, o2, none⟩) xr.length xk, .int .i64 xn] 67)
          have HB3 := hid (alloc_below (Below.refl wo.heap.size wo) (.cells #[.slice (some ⟨b2, o2, none⟩) xr.length xk, .int .i64 xn] 67))
          obtain ⟨W3, hW3⟩ : ∃ W3 : World, W3 = wo.alloc (.cells #[.slice (some ⟨b2, o2, none⟩) xr.length xk, .int .i64 xn] 67) := ⟨_, rfl⟩
          rw [← hW3] at HX3 HB3
          have hv3 := ((bcell (Below.step' HBWO.out HB3.out)).1 b2 _ hb2).trans hv2
          have hs3 := HB3.out.size
          have hb3 : b2 < W3.heap.size := by have := HBWO.out.size; omega
          have hrun3 := hrun W3 (Below.step' HBO.out HB3.out)
          have HX4 := hid ((HXM.out.step HBO.out).step HB3.out)
          go_upto_region 11 with fail
          rw [← hW3]
          clear hW3 hv2 e0 e1 hneb hrun
          obtain ⟨cHX3, fHX3, sHX3, nHX3⟩ := HX3.out.all
          try simp only [cbox] at cHX3
          obtain ⟨cHX4, fHX4, sHX4, nHX4⟩ := HX4.out.all
          try simp only [cbox] at cHX4
          go_wp2_with fail
          -- STOP-e
          clear cHX3 fHX3 sHX3 nHX3
          clear cHX4 fHX4 sHX4 nHX4
          have HO3 := hid (own_laterS HOWN.out HB3.out)
          have HN3 := hid (HNEW.out.step HB3.out)
          have HNE3 : Hid (some wo.heap.size ≠ (Value.slice A10 S.length c10).ownBlock) := hid (fun e => by have := (HOWN.out.lt _ e.symm).2; omega)
          have HBM3 := hid (Below.step' HBO.out HB3.out)
          clear hv3 hrun3
          go_loopw [10, 56] (fun s10 s56 wr => ∃ (j : Nat) (S2 : List IR), j ≤ L.length ∧ s56 = .int .i64 j ∧ S2.length ≤ i * 800 + j ∧ Hid (its S2 = P ++ pairL xr xn (L.take j)) ∧ Hid (wr.ownsRow Wm.heap.size 67 2 s10 S2.length (rcells S2)) ∧ Hid (RowsNew wr Wm.heap.size s10 S2) ∧ Hid (Below Wm.heap.size Wm wr) ∧ Hid (Blk wr wo.heap.size #[.slice (some ⟨b2, o2, none⟩) xr.length xk, .int .i64 xn] 67) ∧ Hid (some wo.heap.size ≠ s10.ownBlock)) (fun _ s56 _ => L.length - (intOf s56).toNat)
          case atStart => exact ⟨0, S, by omega, rfl, by omega, hid (by rw [HIS.out]; simp [pairL]), HO3, HN3, HBM3, HX3, HNE3⟩
          case round =>
            obtain ⟨j, S2, hj2, rfl, hS2, HJS, HOJ, HNJ, HBJ, HXJ, HNEJ⟩ := hrel
            obtain ⟨wj, rfl⟩ : ∃ wx : World, wx = wr := ⟨_, rfl⟩
            obtain ⟨A11, c11, rfl⟩ := own_formS HOJ.out
            have hsj := HBJ.out.size
            by_cases hjl2 : j < L.length
            · obtain ⟨b4, off4, rfl, hb4, e0, e1⟩ := (HRW.out.step HBJ.out).it hjl2
              have hym := HGK.out L[j] (List.getElem_mem hjl2)
              have HYR := hid ((HR2.out.2 L[j] hym).1)
              obtain ⟨y1, y2, y3, y4⟩ := HM2.out L[j] hym
              have HPS := hid (pairL_succ xr xn L j hjl2)
              try simp only [IR.it] at y1 y2 y3 y4
              generalize L[j] = y at *
              obtain ⟨yr, yA, yk, yn⟩ := y
              simp only at e0 e1 HYR y1 y2 y3 y4 HPS
              have hneb4 : (b4 = wj.heap.size) = False := by simp; omega
              obtain ⟨pn, hpn⟩ : ∃ q, q = wrp (xn * yn) := ⟨_, rfl⟩
              have hwp : IntKind.i64.wrap (xn * yn) = pn := hpn.symm
              rw [← hpn] at HPS
              have HX5 := hid (Blk.new wj #[.slice yA yr.length yk, .int .i64 yn] 67)
              have HB5 := hid (alloc_below (Below.refl wj.heap.size wj) (.cells #[.slice yA yr.length yk, .int .i64 yn] 67))
              obtain ⟨W, hW⟩ : ∃ W : World, W = wj.alloc (.cells #[.slice yA yr.length yk, .int .i64 yn] 67) := ⟨_, rfl⟩
              rw [← hW] at HX5 HB5
              have HXW := hid (HXJ.out.step HB5.out)
              have HBWW := hid (Below.step' (Below.step' HBW.out HBJ.out) HB5.out)
              have HCL := hid (fun w2 (hb : Below W.heap.size W w2) => cloneO_any xr (some ⟨b2, o2, none⟩) xk w2 (HXR.out.step (Below.step' HBWW.out hb)) (by omega))
              have HYW := hid (HYR.out.step HBWW.out)
              have HOS := hid (own_laterS HOJ.out HB5.out)
              have HNS := hid (HNJ.out.step HB5.out)
              have HBMW := hid (Below.step' HBJ.out HB5.out)
              have hsW := HB5.out.size
              have hWm : Wm.heap.size ≤ W.heap.size := HBMW.out.size
              have hbx : wo.heap.size < W.heap.size := HXW.out.lt
              have hby : wj.heap.size < W.heap.size := HX5.out.lt
              have hbxo : wo.heap.size < wj.heap.size := HXJ.out.lt
              have HOL := hid (fun q (e : (Value.slice A11 S2.length c11).ownBlock = some q) => HOJ.out.lt q e)
              have hmx : S2.length + 1 ≤ maxLen := by simp only [maxLen]; omega
              have hby3 : (S2.length + 1) * 32 ≤ 140737488355328 := by omega
              have hmx2 : xr.length + yr.length ≤ maxLen := by simp only [maxLen]; omega
              have hby2 : (xr.length + yr.length) * 8 ≤ 140737488355328 := by omega
              have hyl2 : (icells' yr).length = yr.length * 1 := by simp
              have hnxo : some wo.heap.size = (Value.slice A11 S2.length c11).ownBlock → False := fun e => HNEJ.out e
              have hnyo : some wj.heap.size = (Value.slice A11 S2.length c11).ownBlock → False := fun e => by have := (HOL.out _ e.symm).2; omega
              clear hpn
              go_upto_region 14 with fail
              rw [← hW]
              clear hW e0 e1 hneb4 hym
              obtain ⟨cHX5, fHX5, sHX5, nHX5⟩ := HX5.out.all
              try simp only [cbox] at cHX5
              obtain ⟨cHXW, fHXW, sHXW, nHXW⟩ := HXW.out.all
              try simp only [cbox] at cHXW
              -- STOP-f
              go_region_held3 (fun w' => (∀ o, w'.cell? ⟨wo.heap.size, o, none⟩ = W.cell? ⟨wo.heap.size, o, none⟩) ∧ (∀ o, w'.cell? ⟨wj.heap.size, o, none⟩ = W.cell? ⟨wj.heap.size, o, none⟩) ∧ Below Wm.heap.size W w')
                ((go_split_ands; first | (with_reducible exact ⟨fun _ => rfl, fun _ => rfl, (Below.refl _ _).drew⟩) | (with_reducible exact ⟨y51, y52, z5⟩) | (with_reducible exact ⟨y61, y62, z6⟩) | (with_reducible exact ⟨ya1 _, ya2 _, za _⟩) | (with_reducible exact ⟨y71, y72, z7⟩)))
                (first
                  | (go_split_ands; go_at_call 40; (with_reducible refine (HCL.out _ (Below.refl _ _).drew).mono ?_); rintro e w5 ⟨v5, rfl, ho5, hb5⟩; obtain ⟨A5, c5, rfl⟩ := own_formS ho5; have hB5 : Below W.heap.size W w5 := Below.step' (Below.refl _ _).drew hb5; have hs5 := hB5.size; have how5 := own_laterS HOS.out hB5; have hnw5 := HNS.out.step hB5; have ho5' : w5.ownsRow W.heap.size 3 1 (.slice A5 xr.length c5) xr.length (icells' xr) := ho5; have hyr5 := HYW.out.step hB5; have y51 := fun o => (bcell hB5).1 wo.heap.size o hbx; have y52 := fun o => (bcell hB5).1 wj.heap.size o hby; have z5 : Below Wm.heap.size W w5 := hB5.mono hWm; have hbx5 : wo.heap.size < w5.heap.size := Nat.lt_of_lt_of_le hbx hs5; have hby5 : wj.heap.size < w5.heap.size := Nat.lt_of_lt_of_le hby hs5; have hm5 : Wm.heap.size ≤ w5.heap.size := Nat.le_trans hWm hs5; have bk5 := HXW.out.step hB5)
                  | (go_split_ands; refine step_append_row elem_int (by rfl) _ _ (by rfl) W.heap.size (.slice A5 xr.length c5) xr.length (icells' xr) (by rfl) ho5' yA yr.length yk w5.heap.size (icells' yr) (by rfl) hyl2 hyr5 (icellsQ_one yr) hmx2 hby2 hs5 ?_; intro v6 w6 hown6 hg6 hif6; obtain ⟨A6, c6, rfl⟩ := own_formS hown6; have hsz6 := hg6.size; have y61 := fun o => (keepG hg6 hbx5 (fun e => Nat.lt_irrefl _ (Nat.lt_of_lt_of_le hbx (ho5'.lt _ e.symm).1)) o).trans (y51 o); have y62 := fun o => (keepG hg6 hby5 (fun e => Nat.lt_irrefl _ (Nat.lt_of_lt_of_le hby (ho5'.lt _ e.symm).1)) o).trans (y52 o); have z6 : Below Wm.heap.size W w6 := z5.grown hg6 hm5 (fun q e => Nat.le_trans hWm (ho5'.lt _ e).1); have hbx6 : wo.heap.size < w6.heap.size := Nat.lt_of_lt_of_le hbx5 hsz6; have hby6 : wj.heap.size < w6.heap.size := Nat.lt_of_lt_of_le hby5 hsz6; have hm6 : Wm.heap.size ≤ w6.heap.size := Nat.le_trans hm5 hsz6; have how6 := own_ne_grown how5 hg6 (fun q e1 e2 => Nat.lt_irrefl _ (Nat.lt_of_lt_of_le (HOL.out q e1).2 (Nat.le_trans hsW (ho5'.lt _ e2.symm).1))); have ya1 := fun (ob : Obj) o => ((bcell (alloc_below (Below.refl w6.heap.size w6) ob)).1 wo.heap.size o hbx6).trans (y61 o); have ya2 := fun (ob : Obj) o => ((bcell (alloc_below (Below.refl w6.heap.size w6) ob)).1 wj.heap.size o hby6).trans (y62 o); have za := fun (ob : Obj) => z6.alloc hm6 ob; have bk6 := bk5.grown hg6 (fun e => Nat.lt_irrefl _ (Nat.lt_of_lt_of_le hbx (ho5'.lt _ e.symm).1)))
                  | (go_split_ands; refine step_append_row elem_item (by rfl) _ _ (by rfl) Wm.heap.size (.slice A11 S2.length c11) S2.length (rcells S2) (by rfl) (World.ownsRow.alloc how6 _) (some ⟨w6.heap.size, 0, none⟩) 1 1 (w6.heap.size + 1) [.slice A6 (xr.length + yr.length) c6, .int .i64 pn] (by rfl) (by rfl) (Row.new' w6 _ _ rfl rfl (Nat.lt_succ_self _)) (two_one _ _ _ _) hmx hby3 (Nat.le_trans hm6 (le_alloc _ _)) ?_; intro v7 w7 hown7 hg7 hif7; obtain ⟨A12, c12, rfl⟩ := own_formS hown7; have y71 := fun o => (keepG hg7 (Nat.lt_of_lt_of_le hbx6 (le_alloc _ _)) hnxo o).trans (ya1 _ o); have y72 := fun o => (keepG hg7 (Nat.lt_of_lt_of_le hby6 (le_alloc _ _)) hnyo o).trans (ya2 _ o); have z7 : Below Wm.heap.size W w7 := (za _).grown hg7 (Nat.le_trans hm6 (le_alloc _ _)) (fun q e => (HOL.out q e).1); have bk7 := (bk6.alloc (.cells #[.slice A6 (xr.length + yr.length) c6, .int .i64 pn] 67)).grown hg7 (fun e => hnxo e)))
              -- STOP-g
              all_goals
                go_wp2
                have HIN : Hid (∀ b off q, A6 = some ⟨b, off, q⟩ → W.heap.size ≤ b ∧ b < w6.heap.size) := hid (fun b off q e => hown6.lt b (by rw [e]; rfl))
                have HNEW9 := hid (((hnw5.grownNe hg6 (fun x hx b off q e e2 => by
                  have q1 := ((HNS.out x hx).2.2.1 b off q e).2
                  have q2 := (ho5'.lt b e2.symm).1
                  omega)).step (alloc_below (Below.refl _ _) (.cells #[.slice A6 (xr.length + yr.length) c6, .int .i64 pn] 67))).grown hg7 hif7)
                have HRO6 := hid (RowOwn.of_own (l := xr ++ yr) (show w6.ownsRow W.heap.size 3 1 (.slice A6 (xr.length + yr.length) c6) (xr.length + yr.length) (icells' (xr ++ yr)) by simpa using hown6) (List.length_append ..).symm)
                have HO7 := hid hown7
                have HG7 := hid hg7
                have HIF := hid hif7
                have Z7 := hid z7
                have BK7 := hid bk7
                clear hown7 hg7 hif7 z7 hown6 hg6 hif6 how5 how6 hnw5 ho5' hyr5 y51 y52 z5 y61 y62 z6 ya1 ya2 za y71 y72 bk5 bk6 bk7
                go_roundw
                case rel =>
                  have hA6 : ∀ b off q, A6 = some ⟨b, off, q⟩ → some b ≠ (Value.slice A11 S2.length c11).ownBlock := fun b off q e e2 => by
                    have q1 := (HIN.out b off q e).1
                    have q2 := (HOL.out b e2.symm).2
                    omega
                  have hr9 := ((HRO6.out.step (alloc_below (Below.refl _ _) (.cells #[.slice A6 (xr.length + yr.length) c6, .int .i64 pn] 67))).grown_ne (Nat.le_refl _) HG7.out hA6).more HG7.out.size
                  have hln : (xr ++ yr).length = xr.length + yr.length := List.length_append ..
                  have hsz7 := HG7.out.size
                  simp at hsz7
                  have hsz6 := hsz7
                  refine ⟨j + 1, S2 ++ [⟨xr ++ yr, A6, c6, pn⟩], by omega, by go_num, by simp; omega, hid ?_, hid ?_, hid ?_, hid (Below.trans HBMW.out Z7.out), hid ?_, hid ?_⟩
                  · rw [HPS.out, ← List.append_assoc, ← HJS.out]
                    show (S2 ++ [(⟨xr ++ yr, A6, c6, pn⟩ : IR)]).map IR.it = _
                    rw [List.map_append]; rfl
                  · rw [rcells_snoc, List.length_append]
                    simp only [IR.cells, hln]
                    exact HO7.out
                  · refine RowsNew.snoc HNEW9.out (x := (⟨xr ++ yr, A6, c6, pn⟩ : IR)) hr9 (fun b off q e => by have := (HIN.out b off q e).1; omega) (fun b off q e => ?_) (by simp only [hln]; omega)
                    have hlt9 := (HIN.out b off q e).2
                    refine ⟨?_, by omega⟩
                    rcases HIF.out with h | h
                    · rw [h]; exact hA6 b off q e
                    · rw [h]; intro e2; injection e2 with e2; simp at e2; omega
                  · exact BK7.out
                  · rcases HIF.out with h | h
                    · rw [h]; exact HNEJ.out
                    · rw [h]; intro e2; injection e2 with e2; simp at e2; omega
                case measure => simp [intOf]; omega
            · have hje : j = L.length := by omega
              subst hje
              rw [List.take_length] at HJS
              go_wp2_with fail
              -- STOP-h
              go_roundw
              case rel => exact ⟨i + 1, S2, by omega, by go_num, by rw [Nat.succ_mul]; omega, hid (by rw [HJS.out, HST.out]), HOJ, HNJ, HBJ⟩
              case measure => simp [intOf]; omega
        · have hik : i = M1.length := by omega
          subst hik
          rw [List.take_length] at HIS
          go_wp2_with fail
          -- STOP-i
          go_ret
          exact ⟨A10, c10, S, rfl, by rw [HIS.out, HXP.out], own_baseS HOWN.out HBW.out.size, fun x hx => by
            obtain ⟨q1, q2, q3, q4⟩ := HNEW.out x hx
            exact ⟨q1, newAt_le q2 HBW.out.size, q3, q4⟩, HBWO.out⟩
end Go.Proofs.YtldlmkfigjicgaaGreatDoor
/- plain.step. -/
namespace Go.Proofs.YtldlmkfigjicgaaGreatDoor
set_option linter.unusedVariables false
set_option linter.unusedSimpArgs false
open Go.ChangeShapes Go.WideShapes Go.ChangeAt Go.RowKit

/-- Items, in whatever order, wherever their rows lie. -/
def PermPost (S : List It) (w : World) (e : Ending) (w' : World) : Prop :=
  ∃ (A : Option Addr) (k : Nat) (M : List IR), e = .returned (.slice A M.length k) ∧ (its M).Perm S ∧ RowI w' w'.heap.size A M ∧ Below w.heap.size w w'
/-! distinct -/
def distM (M : List IR) : List IR := (M.filter (fun x => decide (0 < x.n))).map (fun x => ⟨x.row, x.A, x.k, 1⟩)
theorem distM_its (M : List IR) : its (distM M) = distL (its M) := by
  unfold distM distL
  show List.map IR.it _ = _
  rw [List.filter_map, List.map_map, List.map_map]; rfl
theorem distM_rows {w : World} {B : Nat} {M : List IR} (h : RowsAt w B M) : RowsAt w B (distM M) := fun x hx => by
  obtain ⟨y, hy, rfl⟩ := List.mem_map.1 hx
  exact h y (List.mem_filter.1 hy).1
theorem distM_snoc (M : List IR) (i : Nat) (hi : i < M.length) : distM (M.take (i + 1)) = distM (M.take i) ++ (if 0 < M[i].n then [⟨M[i].row, M[i].A, M[i].k, 1⟩] else []) := by
  unfold distM
  rw [List.take_succ_eq_append_getElem hi, List.filter_append, List.map_append, List.filter_cons, List.filter_nil]
  by_cases q : 0 < M[i].n
  · rw [if_pos (decide_eq_true q), if_pos q]; rfl
  · rw [if_neg (by simpa using q), if_neg q]; rfl
theorem distM_len (M : List IR) (i : Nat) : (distM (M.take i)).length ≤ i := by
  unfold distM
  rw [List.length_map]
  exact Nat.le_trans (List.length_filter_le _ _) (List.length_take_le _ _)

/-! groups, in whatever order -/
theorem flatMap_perm {f : Int → List It} {a b : List Int} (h : a.Perm b) : (a.flatMap f).Perm (b.flatMap f) := by
  induction h with
  | nil => exact List.Perm.refl _
  | cons x _ ih => rw [List.flatMap_cons, List.flatMap_cons]; exact ih.append_left _
  | swap x y l =>
    simp only [List.flatMap_cons]
    rw [← List.append_assoc, ← List.append_assoc]
    exact List.perm_append_comm.append_right _
  | trans _ _ h1 h2 => exact h1.trans h2
theorem RowsNew.app {w : World} {lo : Nat} {v : Value} {S M : List IR} (h : RowsNew w lo v S) (h' : RowsNew w lo v M) : RowsNew w lo v (S ++ M) := fun x hx => by
  rcases List.mem_append.1 hx with q | q
  · exact h x q
  · exact h' x q
theorem invK_int : ∀ key kl, keyOf Tryz.prog 3 key = some kl → ∃ x : Int, key = Value.int .i64 x := fun key kl h => by
  obtain ⟨x, rfl, -⟩ := Maps.keyOf_int_inv Tryz.underlying3 h
  exact ⟨x, rfl⟩
theorem invV_grp : ∀ v y, grpElem v = some y → ∃ c : Int × Int, v = grpv c.1 c.2 := fun v y h => by
  obtain ⟨n, m, rfl, -⟩ := grpElem_shape h
  exact ⟨(n, m), rfl⟩

/-- What a step asks of its lists. -/
def StepOk (s : St) (A B : List It) : Prop := LinOk s A B ∧ (s.kind = 4 → JoinOk s A B) ∧ (s.kind = 8 ∨ s.kind = 9 → GrpOk s A)

end Go.Proofs.YtldlmkfigjicgaaGreatDoor
