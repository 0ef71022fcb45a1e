/- Once -/
import Derived.Test.YtldlmkfigjicgaaGreatDoorCk09
import Derived.Test.YtldlmkfigjicgaaGreatDoorCk01
/- viewref.once, Values, Keys. -/
namespace Go.Proofs.YtldlmkfigjicgaaGreatDoor
set_option linter.unusedVariables false
open Go.ChangeShapes Go.WideShapes Go.ChangeAt Go.RowKit

theorem own_shortI {w : World} {B n cap g k : Nat} {T : TypeId} {xs : List Value} (h : w.ownsRow B T 1 (.slice (some ⟨g, 0, none⟩) n cap) n xs) (hk : k ≤ n) : w.ownsRow B T 1 (.slice (some ⟨g, 0, none⟩) k cap) k (xs.take k) := by
  refine ⟨by rw [List.length_take, h.1]; omega, ?_⟩
  rcases h.2 with ⟨h1, _⟩ | ⟨g', cap', cur, h1, h2, h3, h4, h5, h6, h7⟩
  · cases h1
  · injection h1 with e1 e2 e3
    injection e1 with e1
    injection e1 with e1
    subst e1 e3
    refine .inr ⟨g, cap, cur, rfl, h2, h3, by omega, h5, h6, ?_⟩
    rw [← h7, List.take_take, Nat.mul_one, Nat.mul_one, Nat.min_eq_left (by omega)]

def cu (s : List Int) (i : Nat) : List Int := Lib.compactUpTo s.toArray i
theorem cu_zero (s : List Int) : cu s 0 = [] := rfl
theorem cu_all (s : List Int) : cu s s.length = Lib.compact s := rfl
theorem cu_succ (s : List Int) (i : Nat) (h : i < s.length) : cu s (i + 1) = cu s i ++ (if i = 0 ∨ s[i] ≠ s[i - 1]'(by omega) then [s[i]] else []) := by
  unfold cu
  rw [Lib.compactUpTo_succ]
  have e1 : s.toArray[i]! = s[i] := by rw [getElem!_pos _ i (by simpa using h)]; simp
  have e2 : s.toArray[i - 1]! = s[i - 1]'(by omega) := by rw [getElem!_pos _ (i - 1) (by simp; omega)]; simp
  unfold Lib.keeps
  rw [e1, e2]
  by_cases q : i = 0 ∨ s[i] ≠ s[i - 1]'(by omega)
  · simp [q]
  · simp [q]
theorem cu_len (s : List Int) : ∀ i, i ≤ s.length → (cu s i).length ≤ i
  | 0, _ => by simp [cu_zero]
  | i + 1, h => by
    rw [cu_succ s i (by omega), List.length_append]
    have := cu_len s i (by omega)
    split <;> simp <;> omega
theorem cu_last (s : List Int) : ∀ i (h : i < s.length), (cu s (i + 1)).getLast? = some s[i]
  | 0, h => by rw [cu_succ s 0 h]; simp [cu_zero]
  | i + 1, h => by
    rw [cu_succ s (i + 1) h]
    by_cases q : s[i + 1] = s[i]
    · rw [if_neg (by simp [q]), List.append_nil, cu_last s i (by omega), q]
    · rw [if_pos (by right; simpa using q)]; simp

/-- Of the first i places those that stay stand in front; from i on all is as it was. -/
structure OInv (s ds : List Int) (i kk : Nat) : Prop where
  len : ds.length = s.length
  eq : kk = (cu s i).length
  low : ds.take kk = cu s i
  high : ∀ j (h : j < s.length) (h' : j < ds.length), i ≤ j → ds[j] = s[j]
theorem OInv.start (s : List Int) : OInv s s 0 0 := ⟨rfl, rfl, rfl, fun _ _ _ _ => rfl⟩
theorem OInv.prev {s ds : List Int} {i kk : Nat} (h : OInv s ds i kk) (hi : i ≤ s.length) (h0 : 0 < i) : ∃ hk : kk - 1 < ds.length, 1 ≤ kk ∧ ds[kk - 1] = s[i - 1]'(by omega) := by
  have hl := cu_last s (i - 1) (by omega)
  rw [show i - 1 + 1 = i by omega, ← h.low, List.getLast?_eq_getElem?] at hl
  have hlen : (ds.take kk).length = kk := by rw [h.low, h.eq]
  rw [hlen] at hl
  have h1 : kk - 1 < (ds.take kk).length := by
    rcases Nat.lt_or_ge (kk - 1) (ds.take kk).length with q | q
    · exact q
    · rw [List.getElem?_eq_none q] at hl; cases hl
  have h2 : kk - 1 < ds.length := by rw [List.length_take] at h1; omega
  refine ⟨h2, by omega, ?_⟩
  rw [List.getElem?_eq_getElem h1] at hl
  injection hl with hl
  rw [← hl, List.getElem_take]
theorem OInv.keep {s ds : List Int} {i kk : Nat} (h : OInv s ds i kk) (hi : i < s.length) (hq : i = 0 ∨ s[i] ≠ s[i - 1]'(by omega)) : OInv s (ds.set kk s[i]) (i + 1) (kk + 1) := by
  have hkk : kk ≤ i := by rw [h.eq]; exact cu_len s i (by omega)
  have hlen := h.len
  refine ⟨by rw [List.length_set]; exact hlen, ?_, ?_, fun j hj hj' hij => ?_⟩
  · rw [cu_succ s i hi, if_pos hq, List.length_append, ← h.eq]; rfl
  · rw [cu_succ s i hi, if_pos hq, List.take_succ_eq_append_getElem (by rw [List.length_set]; omega), List.getElem_set_self]
    congr 1
    rw [List.take_set, List.set_eq_of_length_le (by rw [List.length_take]; omega), h.low]
  · rw [List.getElem_set_ne (by omega)]
    exact h.high j hj (by omega) (by omega)
theorem OInv.skip {s ds : List Int} {i kk : Nat} (h : OInv s ds i kk) (hi : i < s.length) (hq : ¬ (i = 0 ∨ s[i] ≠ s[i - 1]'(by omega))) : OInv s ds (i + 1) kk := by
  have e : cu s (i + 1) = cu s i := by rw [cu_succ s i hi, if_neg hq, List.append_nil]
  exact ⟨h.len, by rw [e]; exact h.eq, by rw [e]; exact h.low, fun j hj hj' hij => h.high j hj hj' (by omega)⟩

theorem own_addrS {w : World} {B n c s : Nat} {T : TypeId} {A : Option Addr} {xs : List Value} (h : w.ownsRow B T s (.slice A n c) n xs) (hn : 0 < n) : ∃ g, A = some ⟨g, 0, none⟩ ∧ B ≤ g ∧ g < w.heap.size ∧ n ≤ c ∧ c ≤ maxLen := by
  rcases h.2 with ⟨_, h0⟩ | ⟨g, cap, cur, h', hb, hg, hnc, hcm, hcs, htake⟩
  · omega
  · injection h' with h1 h2 h3
    subst h1 h3
    have hlt : g < w.heap.size := by
      rcases Nat.lt_or_ge g w.heap.size with h | h
      · exact h
      · rw [Array.getElem?_eq_none h] at hg; cases hg
    exact ⟨g, rfl, hb, hlt, hnc, hcm⟩
theorem own_drewS {w : World} {B n s : Nat} {T : TypeId} {v : Value} {xs : List Value} (h : w.ownsRow B T s v n xs) (q : Nat) : (w.drewN q).ownsRow B T s v n xs := h
theorem el_int : Elem Tryz.prog 30 3 1 8 := by
  obtain ⟨i0, h0, h1, h2, h3⟩ := info_parts info_int
  exact ⟨Tryz.underlying30, ⟨i0, _, h0, h1, h2, h3, rfl⟩, by decide⟩

set_option maxHeartbeats 4000000 in
set_option maxRecDepth 100000 in
theorem once_any (l : List Int) (A : Option Addr) (c : Nat) (w : World) (hr : Row w w.heap.size A (icells l)) (hl : l.length ≤ 4398046511104) :
    Calls Tryz.prog 81 #[.slice A l.length c] w (IntsPost (onceI l) w) := by
  have HR := hid hr
  clear hr
  have HF := hid (show onceI l = Lib.compact (isort l) from rfl)
  have hsl := isort_len l
  obtain ⟨s, hs⟩ : ∃ s, s = isort l := ⟨_, rfl⟩
  rw [← hs] at HF hsl
  obtain ⟨V, hV⟩ : ∃ V, V = onceI l := ⟨_, rfl⟩
  rw [← hV] at HF ⊢
  have HSD := hid hs
  clear hV hs
  go_enter Tryz.func81, Tryz.ntmps81
  go_wp2_with (at_builtin; refine wpList_append_row el_int rfl _ _ (by rfl) w.heap.size (.slice none 0 0) 0 [] (by rfl) (World.ownsRow_nil _ _ _ _) A l.length c _ (icells l) (by rfl) (by simp) HR.out (icells_one _) (by simp only [maxLen]; omega) (by omega) (Nat.le_refl _) ?_; intro v1 w1 hown1 hg1 _; rw [Nat.zero_add, List.nil_append] at hown1; obtain ⟨A1, c1, rfl⟩ := own_formS hown1)
  have HB1 := hid (below_grown_nil (Below.refl w.heap.size w) hg1)
  have HS := hid (sortI_own l w1 hown1 (by omega))
  have HOL := hid (fun g e => (hown1.lt g e).1)
  have hs1 := hg1.size
  clear hown1 hg1
  go_wp2_with fail
  refine HS.out.mono ?_
  rintro e w2 ⟨rfl, hown2, hg2⟩
  have HB2 := hid (HB1.out.grown hg2 hs1 (fun g e => HOL.out g e))
  rw [← HSD.out] at hown2
  have HOWN2 := hid hown2
  clear hown2 hg2 HOL HS HB1
  go_wp2
  go_loopw [4, 5] (fun s4 s5 wr => ∃ (i kk : Nat) (ds : List Int), i ≤ l.length ∧ s5 = .int .i64 i ∧ s4 = .int .i64 kk ∧ OInv s ds i kk ∧ wr.ownsRow w.heap.size 3 1 (.slice A1 l.length c1) l.length (icells ds) ∧ Below w.heap.size w wr) (fun _ s5 _ => l.length - (intOf s5).toNat)
  case atStart => exact ⟨0, 0, s, by omega, rfl, rfl, OInv.start s, HOWN2.out, HB2.out⟩
  case round =>
    obtain ⟨i, kk, ds, hi, rfl, rfl, hinv, hown, hbw⟩ := hrel
    have HI := hid hinv
    have HOWN := hid hown
    have HBW := hid hbw
    have hkki : kk ≤ i := by rw [hinv.eq]; exact cu_len s i (by omega)
    have hdl := hinv.len
    by_cases hlt : i < l.length
    · obtain ⟨g, hA, hBg, hgs, hcl1, hcl2⟩ := own_addrS hown (by omega)
      subst hA
      have hi' : i < s.length := by omega
      have ei : wr.cell? ⟨g, i, none⟩ = some (.int .i64 s[i]) := by
        rw [hown.cellAt i (by omega), ← hinv.high i hi' (by omega) (Nat.le_refl _)]
        simp [show i < ds.length by omega]
      have fk := hown.frozenAt kk
      have ek : ∃ u, wr.cell? ⟨g, kk, none⟩ = some u := ⟨_, (hown.cellAt kk (by omega)).trans (List.getElem?_eq_getElem (show kk < (icells ds).length by simp; omega))⟩
      obtain ⟨uk, ek⟩ := ek
      have hstore := hown.stored kk (.int .i64 s[i])
      have hset : (icells ds).set kk (.int .i64 s[i]) = icells (ds.set kk s[i]) := by simp [icells, List.map_set]
      rw [hset] at hstore
      have HST := hid hstore
      clear hset hstore
      by_cases h0 : i = 0
      · have t0 : ((i : Int) == 0) = true := by simp [h0]
        have HK := hid (hinv.keep hi' (.inl h0))
        clear h0 hinv hown hbw
        generalize s[i] = x at *
        go_wp2
        refine wp_region_quiet_lit (by kernel_rfl) (by kernel_rfl) ?_
        repeat (any_goals ((with_reducible refine wpQuiet_step (fun K hK => ?_)); go_simp; first | (with_reducible refine hK _ ?_; clear hK K) | ((with_reducible apply Exists.intro); (with_reducible refine ⟨fun _ => ?_, hK _ ?_⟩); (fail); clear hK K) | ((with_reducible refine (if_neg ?_).mpr (hK _ ?_)); (decide); clear hK K) | (split <;> (with_reducible refine hK _ ?_; clear hK K))))
        all_goals ((with_reducible refine wpQuiet_nil ?_); intro _ hw'; obtain ⟨nq, hw''⟩ := hw'; subst hw'')
        go_wp2
        go_roundw
        case rel => exact ⟨i + 1, kk + 1, _, by omega, by go_num, by go_num, HK.out, HST.out.1, (below_drewN HBW.out nq).setCell hBg _⟩
        case measure => simp [intOf]; omega
      · have t0 : ((i : Int) == 0) = false := by simp only [beq_eq_false_iff_ne, ne_eq]; omega
        obtain ⟨hkp, hk1, hpe⟩ := hinv.prev (by omega) (by omega)
        have ep : wr.cell? ⟨g, kk - 1, none⟩ = some (.int .i64 (s[i - 1]'(by omega))) := by
          rw [hown.cellAt (kk - 1) (by omega), ← hpe]
          simp [hkp]
        have z1 : IntKind.i64.wrap ((kk : Int) - 1) = (kk : Int) - 1 := IntWalk.i64_in _ (by omega)
        have z2 : (1 : Int) ≤ (kk : Int) := by omega
        have z3 : (kk : Int) - 1 < (l.length : Int) := by omega
        have z4 : ((kk : Int) - 1).toNat = kk - 1 := by omega
        by_cases hq : s[i] = s[i - 1]'(by omega)
        · have HK := hid (hinv.skip hi' (by simp [h0, hq]))
          have t1 : (s[i] != s[i - 1]'(by omega)) = false := by simp [hq]
          clear hinv hown hbw hpe hq
          generalize s[i - 1]'(by omega) = y at *
          generalize s[i] = x at *
          go_wp2
          refine wp_region_quiet_lit (by kernel_rfl) (by kernel_rfl) ?_
          repeat (any_goals ((with_reducible refine wpQuiet_step (fun K hK => ?_)); go_simp; first | (with_reducible refine hK _ ?_; clear hK K) | ((with_reducible apply Exists.intro); (with_reducible refine ⟨fun _ => ?_, hK _ ?_⟩); (fail); clear hK K) | ((with_reducible refine (if_neg ?_).mpr (hK _ ?_)); (decide); clear hK K) | (split <;> (with_reducible refine hK _ ?_; clear hK K))))
          all_goals ((with_reducible refine wpQuiet_nil ?_); intro _ hw'; obtain ⟨nq, hw''⟩ := hw'; subst hw'')
          go_wp2
          go_roundw
          case rel => exact ⟨i + 1, kk, _, by omega, by go_num, rfl, HK.out, own_drewS HOWN.out nq, below_drewN HBW.out nq⟩
          case measure => simp [intOf]; omega
        · have HK := hid (hinv.keep hi' (.inr hq))
          have t1 : (s[i] != s[i - 1]'(by omega)) = true := by simpa using hq
          clear hinv hown hbw hpe hq
          generalize s[i - 1]'(by omega) = y at *
          generalize s[i] = x at *
          go_wp2
          refine wp_region_quiet_lit (by kernel_rfl) (by kernel_rfl) ?_
          repeat (any_goals ((with_reducible refine wpQuiet_step (fun K hK => ?_)); go_simp; first | (with_reducible refine hK _ ?_; clear hK K) | ((with_reducible apply Exists.intro); (with_reducible refine ⟨fun _ => ?_, hK _ ?_⟩); (fail); clear hK K) | ((with_reducible refine (if_neg ?_).mpr (hK _ ?_)); (decide); clear hK K) | (split <;> (with_reducible refine hK _ ?_; clear hK K))))
          all_goals ((with_reducible refine wpQuiet_nil ?_); intro _ hw'; obtain ⟨nq, hw''⟩ := hw'; subst hw'')
          go_wp2
          go_roundw
          case rel => exact ⟨i + 1, kk + 1, _, by omega, by go_num, by go_num, HK.out, HST.out.1, (below_drewN HBW.out nq).setCell hBg _⟩
          case measure => simp [intOf]; omega
    · have e : i = s.length := by omega
      have hfin : icells (ds.take kk) = icells V := by rw [hinv.low, e, cu_all, HF.out]
      have hlenV : kk = V.length := by
        have h := congrArg List.length hfin
        rw [List.length_map, List.length_map, List.length_take] at h
        omega
      have HFI := hid hfin
      have HLV := hid hlenV
      clear hfin hlenV e
      rcases hown.2 with ⟨hv, hn⟩ | ⟨g, cap, cur, hv, -, -, hnc, hcm, -, -⟩
      · injection hv with hv1 hv2 hv3
        subst hv1 hv3
        have hk0 : kk = 0 := by omega
        subst hk0
        clear hown hbw hinv
        go_wp2
        go_ret
        exact ⟨_, rfl, by rw [← HLV.out, ← HFI.out]; simpa using World.ownsRow_nil _ _ _ _, HBW.out⟩
      · injection hv with hv1 hv2 hv3
        subst hv1 hv3
        have hsh := own_shortI hown (k := kk) (by omega)
        rw [← List.map_take, show List.map (Value.int .i64) (List.take kk ds) = icells V from HFI.out] at hsh
        have HSH := hid hsh
        simp only [maxLen] at hcm
        clear hown hbw hinv hsh
        go_wp2
        go_ret
        exact ⟨_, rfl, by rw [← HLV.out]; exact HSH.out, HBW.out⟩

set_option maxHeartbeats 4000000 in
set_option maxRecDepth 100000 in
theorem Rvalues_any (t : Tab) (key col : Int) (A : Option Addr) (k : Nat) (B : Option Addr) (m : Nat) (w : World) (rb : Row w w.heap.size B (tcells t.cells)) (lb : t.cells.length ≤ 4398046511104) :
    Calls Tryz.prog 49 #[tval t A k B m, .int .i64 key, .int .i64 col] w (IntsPost (valsL t key col) w) := by
  have RB := hid (fun w1 (hb : Below w.heap.size w w1) => rb.step hb)
  have HV := hid (show valsL t key col = onceI ((t.cells.filter (atKC key col)).map Cel.val) from rfl)
  obtain ⟨V, hV⟩ : ∃ V, V = valsL t key col := ⟨_, rfl⟩
  rw [← hV] at HV ⊢
  clear rb hV
  obtain ⟨⟨c0, c1, c2, c3, cl⟩, l⟩ := t
  obtain ⟨i1, hi0, hz0, hz1, hz2⟩ := info_parts info_int
  simp only [tval] at *
  go_enter Tryz.func49, Tryz.ntmps49
  go_wp2
  obtain ⟨W2, hW2⟩ : ∃ W2 : World, W2 = w.alloc (.cells #[.int .i64 c0, .int .i64 c1, .int .i64 c2, .int .i64 c3, .slice A cl.length k, .slice B l.length m] 29) := ⟨_, rfl⟩
  rw [← hW2]
  have HB2 := hid (show Below w.heap.size w W2 by rw [hW2]; (repeat' (first | (with_reducible exact Below.refl _ _) | (with_reducible assumption) | (with_reducible refine below_drewN ?_ _) | (with_reducible refine Below.drew ?_) | (with_reducible refine Below.alloc ?_ ?_ _) | (with_reducible refine Below.setCell ?_ ?_ _) | (refine Below.trans ?_ (Below.mono (by assumption) ?_)) | go_size)))
  have HXT := hid (show Blk W2 w.heap.size #[.int .i64 c0, .int .i64 c1, .int .i64 c2, .int .i64 c3, .slice A cl.length k, .slice B l.length m] 29 by rw [hW2]; exact Blk.new _ _ _)
  have hs2 : w.heap.size ≤ W2.heap.size := HB2.out.size
  clear hW2
  go_loopw [7, 8] (fun so si wr => ∃ i : Nat, i ≤ l.length ∧ si = .int .i64 i ∧ wr.ownsRow W2.heap.size 3 1 so (((l.take i).filter (atKC key col)).map Cel.val).length (icells (((l.take i).filter (atKC key col)).map Cel.val)) ∧ Below W2.heap.size W2 wr) (fun so si _ => l.length - (intOf si).toNat)
  case atStart => exact ⟨0, by omega, rfl, by simpa using World.ownsRow_nil _ _ _ _, Below.refl _ _⟩
  case round =>
    obtain ⟨i, hi, rfl, hown, hbw⟩ := hrel
    have hst : ∀ hj : i < l.length, ((l.take (i + 1)).filter (atKC key col)).map Cel.val = ((l.take i).filter (atKC key col)).map Cel.val ++ (if atKC key col l[i] = true then [l[i].val] else []) := by
      intro hj
      rw [List.take_succ_eq_append_getElem hj, List.filter_append, List.map_append, List.filter_cons, List.filter_nil]
      split <;> simp
    have hol : (((l.take i).filter (atKC key col)).map Cel.val).length ≤ 4398046511104 := by
      have := List.length_filter_le (atKC key col) (l.take i)
      rw [List.length_take] at this
      rw [List.length_map]
      omega
    have hfin : ¬ i < l.length → onceI (((l.take i).filter (atKC key col)).map Cel.val) = V := fun h => by rw [HV.out, List.take_of_length_le (by omega)]
    obtain ⟨O, hO⟩ : ∃ O, O = ((l.take i).filter (atKC key col)).map Cel.val := ⟨_, rfl⟩
    rw [← hO] at hown hst hol hfin
    clear hO
    obtain ⟨A8, c8, rfl⟩ := own_formS hown
    have hB := Below.step' HB2.out hbw
    have HOWN := hid hown
    have HBW := hid hbw
    have HBB := hid hB
    have HFIN := hid hfin
    have HXR := hid (HXT.out.step hbw)
    clear hown hbw hB hfin
    by_cases hlt : i < l.length
    · obtain ⟨b, off, hA, hb, e0, e1, e2, e3, e4⟩ := (RB.out wr HBB.out).cel hlt
      subst hA
      have HST := hid (hst hlt)
      clear hst
      generalize l[i] = x at *
      obtain ⟨⟨d0, d1⟩, ky, co, vl⟩ := x
      simp only at e0 e1 e2 e3 e4
      have hneb : (b = wr.heap.size) = False := by simp; omega
      have hsw := HBW.out.size
      obtain ⟨cHXR, fHXR, sHXR, nHXR⟩ := HXR.out.all
      try simp only [cbox] at cHXR
      cases q1 : (ky == key)
      · have HQ := hid (show atKC key col ⟨(d0, d1), ky, co, vl⟩ = false by simp only [atKC, q1, Bool.false_and])
        go_wp2
        go_roundw
        case rel => exact ⟨i + 1, by omega, by go_num, by rw [HST.out, HQ.out, if_neg (by simp), List.append_nil]; exact HOWN.out, HBW.out⟩
        case measure => simp [intOf]; omega
      · cases q2 : (co == col)
        · have HQ := hid (show atKC key col ⟨(d0, d1), ky, co, vl⟩ = false by simp only [atKC, q1, q2, Bool.and_false])
          go_wp2
          go_roundw
          case rel => exact ⟨i + 1, by omega, by go_num, by rw [HST.out, HQ.out, if_neg (by simp), List.append_nil]; exact HOWN.out, HBW.out⟩
          case measure => simp [intOf]; omega
        · have HQ := hid (show atKC key col ⟨(d0, d1), ky, co, vl⟩ = true by simp only [atKC, q1, q2, Bool.and_true])
          go_wp2_with (at_builtin; refine wpList_append_own _ rfl _ _ 30 rfl W2.heap.size 3 i1 _ 1 8 Tryz.underlying30 hi0 hz0 hz1 hz2 rfl (by decide) _ _ _ rfl (HOWN.out.alloc _) ⟨wr.heap.size, 0, none⟩ 1 1 (icells [vl]) rfl rfl (newsI wr vl _ _ rfl) (icells_one _) ?_ ?_ ?_ ?_; rotate_right; intro v6 w6 hown6 hg6 _; rotate_left; (simp only [maxLen]; omega); (omega); (simp; omega))
          go_roundw
          case rel =>
            refine ⟨i + 1, by omega, by go_num, ?_, (HBW.out.alloc HBW.out.size _).grown hg6 (by simp; omega) (fun g e => (HOWN.out.lt g e).1)⟩
            rw [HST.out, HQ.out, if_pos rfl, icells_snoc]
            simpa using hown6
          case measure => simp [intOf]; omega
    · have hfin := HFIN.out hlt
      have HON := hid (once_any O A8 c8 wr (Row.of_ownS HOWN.out) (by omega))
      rw [hfin] at HON
      obtain ⟨cHXR, fHXR, sHXR, nHXR⟩ := HXR.out.all
      try simp only [cbox] at cHXR
      clear hst hfin
      go_wp2_with fail
      refine HON.out.mono ?_
      rintro e w6 ⟨v6, rfl, hown6, hb6⟩
      have HO6 := hid hown6
      have HB6 := hid (Below.step' HBB.out hb6)
      have hs6 := HBB.out.size
      clear hown6 hb6
      go_wp2
      go_ret
      exact ⟨v6, rfl, own_baseS HO6.out hs6, HB6.out⟩

set_option maxHeartbeats 4000000 in
set_option maxRecDepth 100000 in
theorem Rkeys_any (t : Tab) (A : Option Addr) (k : Nat) (B : Option Addr) (m : Nat) (w : World) (rb : Row w w.heap.size B (tcells t.cells)) (lb : t.cells.length ≤ 4398046511104) :
    Calls Tryz.prog 48 #[tval t A k B m] w (IntsPost (keysL t) w) := by
  have RB := hid (fun w1 (hb : Below w.heap.size w w1) => rb.step hb)
  have HV := hid (show keysL t = onceI (t.cells.map Cel.key) from rfl)
  obtain ⟨V, hV⟩ : ∃ V, V = keysL t := ⟨_, rfl⟩
  rw [← hV] at HV ⊢
  clear rb hV
  obtain ⟨⟨c0, c1, c2, c3, cl⟩, l⟩ := t
  obtain ⟨i1, hi0, hz0, hz1, hz2⟩ := info_parts info_int
  simp only [tval] at *
  go_enter Tryz.func48, Tryz.ntmps48
  go_wp2
  obtain ⟨W2, hW2⟩ : ∃ W2 : World, W2 = w.alloc (.cells #[.int .i64 c0, .int .i64 c1, .int .i64 c2, .int .i64 c3, .slice A cl.length k, .slice B l.length m] 29) := ⟨_, rfl⟩
  rw [← hW2]
  have HB2 := hid (show Below w.heap.size w W2 by rw [hW2]; (repeat' (first | (with_reducible exact Below.refl _ _) | (with_reducible assumption) | (with_reducible refine below_drewN ?_ _) | (with_reducible refine Below.drew ?_) | (with_reducible refine Below.alloc ?_ ?_ _) | (with_reducible refine Below.setCell ?_ ?_ _) | (refine Below.trans ?_ (Below.mono (by assumption) ?_)) | go_size)))
  have HXT := hid (show Blk W2 w.heap.size #[.int .i64 c0, .int .i64 c1, .int .i64 c2, .int .i64 c3, .slice A cl.length k, .slice B l.length m] 29 by rw [hW2]; exact Blk.new _ _ _)
  have hs2 : w.heap.size ≤ W2.heap.size := HB2.out.size
  clear hW2
  go_loopw [3, 4] (fun so si wr => ∃ i : Nat, i ≤ l.length ∧ si = .int .i64 i ∧ wr.ownsRow W2.heap.size 3 1 so ((l.take i).map Cel.key).length (icells ((l.take i).map Cel.key)) ∧ Below W2.heap.size W2 wr) (fun so si _ => l.length - (intOf si).toNat)
  case atStart => exact ⟨0, by omega, rfl, by simpa using World.ownsRow_nil _ _ _ _, Below.refl _ _⟩
  case round =>
    obtain ⟨i, hi, rfl, hown, hbw⟩ := hrel
    have hst : ∀ hj : i < l.length, (l.take (i + 1)).map Cel.key = (l.take i).map Cel.key ++ [l[i].key] := by
      intro hj
      rw [List.take_succ_eq_append_getElem hj, List.map_append]; rfl
    have hol : ((l.take i).map Cel.key).length ≤ 4398046511104 := by
      rw [List.length_map, List.length_take]
      omega
    have hfin : ¬ i < l.length → onceI ((l.take i).map Cel.key) = V := fun h => by rw [HV.out, List.take_of_length_le (by omega)]
    obtain ⟨O, hO⟩ : ∃ O, O = (l.take i).map Cel.key := ⟨_, rfl⟩
    rw [← hO] at hown hst hol hfin
    clear hO
    obtain ⟨A8, c8, rfl⟩ := own_formS hown
    have hB := Below.step' HB2.out hbw
    have HOWN := hid hown
    have HBW := hid hbw
    have HBB := hid hB
    have HFIN := hid hfin
    have HXR := hid (HXT.out.step hbw)
    clear hown hbw hB hfin
    by_cases hlt : i < l.length
    · obtain ⟨b, off, hA, hb, e0, e1, e2, e3, e4⟩ := (RB.out wr HBB.out).cel hlt
      subst hA
      have HST := hid (hst hlt)
      clear hst
      generalize l[i] = x at *
      obtain ⟨⟨d0, d1⟩, ky, co, vl⟩ := x
      simp only at e0 e1 e2 e3 e4
      have hneb : (b = wr.heap.size) = False := by simp; omega
      have hsw := HBW.out.size
      obtain ⟨cHXR, fHXR, sHXR, nHXR⟩ := HXR.out.all
      try simp only [cbox] at cHXR
      go_wp2_with (at_builtin; refine wpList_append_own _ rfl _ _ 30 rfl W2.heap.size 3 i1 _ 1 8 Tryz.underlying30 hi0 hz0 hz1 hz2 rfl (by decide) _ _ _ rfl (HOWN.out.alloc _) ⟨wr.heap.size, 0, none⟩ 1 1 (icells [ky]) rfl rfl (newsI wr ky _ _ rfl) (icells_one _) ?_ ?_ ?_ ?_; rotate_right; intro v6 w6 hown6 hg6 _; rotate_left; (simp only [maxLen]; omega); (omega); (simp; omega))
      go_roundw
      case rel =>
        refine ⟨i + 1, by omega, by go_num, ?_, (HBW.out.alloc HBW.out.size _).grown hg6 (by simp; omega) (fun g e => (HOWN.out.lt g e).1)⟩
        rw [HST.out, icells_snoc]
        simpa using hown6
      case measure => simp [intOf]; omega
    · have hfin := HFIN.out hlt
      have HON := hid (once_any O A8 c8 wr (Row.of_ownS HOWN.out) (by omega))
      rw [hfin] at HON
      obtain ⟨cHXR, fHXR, sHXR, nHXR⟩ := HXR.out.all
      try simp only [cbox] at cHXR
      clear hst hfin
      go_wp2_with fail
      refine HON.out.mono ?_
      rintro e w6 ⟨v6, rfl, hown6, hb6⟩
      have HO6 := hid hown6
      have HB6 := hid (Below.step' HBB.out hb6)
      have hs6 := HBB.out.size
      clear hown6 hb6
      go_wp2
      go_ret
      exact ⟨v6, rfl, own_baseS HO6.out hs6, HB6.out⟩
end Go.Proofs.YtldlmkfigjicgaaGreatDoor
