/- Once, DotU, TCtx, EqCel -/
import Derived.Test.YtogegnikpjcpdaaCk07
import Derived.Test.YtogegnikpjcpdaaCk06
import Derived.Test.YtogegnikpjcpdaaCk04
import Derived.Deep.CutBlock
import Derived.Deep.CutRange
import Derived.Test.YtogegnikpjcpdaaCk08
/- viewref.once, Values, Keys. -/
namespace Go.Proofs.Ytogegnikpjcpdaa
set_option linter.unusedVariables false
open Go.ChangeShapes Go.WideShapes Go.ChangeAt Go.RowKit

theorem own_shortI {w : World} {B n cap g k : Nat} {T : TypeId} {xs : List Value} (h : w.ownsRow B T 1 (.slice (some ⟨g, 0, none⟩) n cap) n xs) (hk : k ≤ n) : w.ownsRow B T 1 (.slice (some ⟨g, 0, none⟩) k cap) k (xs.take k) := by
  refine ⟨by rw [List.length_take, h.1]; omega, ?_⟩
  rcases h.2 with ⟨h1, _⟩ | ⟨g', cap', cur, h1, h2, h3, h4, h5, h6, h7⟩
  · cases h1
  · injection h1 with e1 e2 e3
    injection e1 with e1
    injection e1 with e1
    subst e1 e3
    refine .inr ⟨g, cap, cur, rfl, h2, h3, by omega, h5, h6, ?_⟩
    rw [← h7, List.take_take, Nat.mul_one, Nat.mul_one, Nat.min_eq_left (by omega)]

def cu (s : List Int) (i : Nat) : List Int := Lib.compactUpTo s.toArray i
theorem cu_zero (s : List Int) : cu s 0 = [] := rfl
theorem cu_all (s : List Int) : cu s s.length = Lib.compact s := rfl
theorem cu_succ (s : List Int) (i : Nat) (h : i < s.length) : cu s (i + 1) = cu s i ++ (if i = 0 ∨ s[i] ≠ s[i - 1]'(by omega) then [s[i]] else []) := by
  unfold cu
  rw [Lib.compactUpTo_succ]
  have e1 : s.toArray[i]! = s[i] := by rw [getElem!_pos _ i (by simpa using h)]; simp
  have e2 : s.toArray[i - 1]! = s[i - 1]'(by omega) := by rw [getElem!_pos _ (i - 1) (by simp; omega)]; simp
  unfold Lib.keeps
  rw [e1, e2]
  by_cases q : i = 0 ∨ s[i] ≠ s[i - 1]'(by omega)
  · simp [q]
  · simp [q]
theorem cu_len (s : List Int) : ∀ i, i ≤ s.length → (cu s i).length ≤ i
  | 0, _ => by simp [cu_zero]
  | i + 1, h => by
    rw [cu_succ s i (by omega), List.length_append]
    have := cu_len s i (by omega)
    split <;> simp <;> omega
theorem cu_last (s : List Int) : ∀ i (h : i < s.length), (cu s (i + 1)).getLast? = some s[i]
  | 0, h => by rw [cu_succ s 0 h]; simp [cu_zero]
  | i + 1, h => by
    rw [cu_succ s (i + 1) h]
    by_cases q : s[i + 1] = s[i]
    · rw [if_neg (by simp [q]), List.append_nil, cu_last s i (by omega), q]
    · rw [if_pos (by right; simpa using q)]; simp

/-- Of the first i places those that stay stand in front; from i on all is as it was. -/
structure OInv (s ds : List Int) (i kk : Nat) : Prop where
  len : ds.length = s.length
  eq : kk = (cu s i).length
  low : ds.take kk = cu s i
  high : ∀ j (h : j < s.length) (h' : j < ds.length), i ≤ j → ds[j] = s[j]
theorem OInv.start (s : List Int) : OInv s s 0 0 := ⟨rfl, rfl, rfl, fun _ _ _ _ => rfl⟩
theorem OInv.prev {s ds : List Int} {i kk : Nat} (h : OInv s ds i kk) (hi : i ≤ s.length) (h0 : 0 < i) : ∃ hk : kk - 1 < ds.length, 1 ≤ kk ∧ ds[kk - 1] = s[i - 1]'(by omega) := by
  have hl := cu_last s (i - 1) (by omega)
  rw [show i - 1 + 1 = i by omega, ← h.low, List.getLast?_eq_getElem?] at hl
  have hlen : (ds.take kk).length = kk := by rw [h.low, h.eq]
  rw [hlen] at hl
  have h1 : kk - 1 < (ds.take kk).length := by
    rcases Nat.lt_or_ge (kk - 1) (ds.take kk).length with q | q
    · exact q
    · rw [List.getElem?_eq_none q] at hl; cases hl
  have h2 : kk - 1 < ds.length := by rw [List.length_take] at h1; omega
  refine ⟨h2, by omega, ?_⟩
  rw [List.getElem?_eq_getElem h1] at hl
  injection hl with hl
  rw [← hl, List.getElem_take]
theorem OInv.keep {s ds : List Int} {i kk : Nat} (h : OInv s ds i kk) (hi : i < s.length) (hq : i = 0 ∨ s[i] ≠ s[i - 1]'(by omega)) : OInv s (ds.set kk s[i]) (i + 1) (kk + 1) := by
  have hkk : kk ≤ i := by rw [h.eq]; exact cu_len s i (by omega)
  have hlen := h.len
  refine ⟨by rw [List.length_set]; exact hlen, ?_, ?_, fun j hj hj' hij => ?_⟩
  · rw [cu_succ s i hi, if_pos hq, List.length_append, ← h.eq]; rfl
  · rw [cu_succ s i hi, if_pos hq, List.take_succ_eq_append_getElem (by rw [List.length_set]; omega), List.getElem_set_self]
    congr 1
    rw [List.take_set, List.set_eq_of_length_le (by rw [List.length_take]; omega), h.low]
  · rw [List.getElem_set_ne (by omega)]
    exact h.high j hj (by omega) (by omega)
theorem OInv.skip {s ds : List Int} {i kk : Nat} (h : OInv s ds i kk) (hi : i < s.length) (hq : ¬ (i = 0 ∨ s[i] ≠ s[i - 1]'(by omega))) : OInv s ds (i + 1) kk := by
  have e : cu s (i + 1) = cu s i := by rw [cu_succ s i hi, if_neg hq, List.append_nil]
  exact ⟨h.len, by rw [e]; exact h.eq, by rw [e]; exact h.low, fun j hj hj' hij => h.high j hj hj' (by omega)⟩

theorem own_addrS {w : World} {B n c s : Nat} {T : TypeId} {A : Option Addr} {xs : List Value} (h : w.ownsRow B T s (.slice A n c) n xs) (hn : 0 < n) : ∃ g, A = some ⟨g, 0, none⟩ ∧ B ≤ g ∧ g < w.heap.size ∧ n ≤ c ∧ c ≤ maxLen := by
  rcases h.2 with ⟨_, h0⟩ | ⟨g, cap, cur, h', hb, hg, hnc, hcm, hcs, htake⟩
  · omega
  · injection h' with h1 h2 h3
    subst h1 h3
    have hlt : g < w.heap.size := by
      rcases Nat.lt_or_ge g w.heap.size with h | h
      · exact h
      · rw [Array.getElem?_eq_none h] at hg; cases hg
    exact ⟨g, rfl, hb, hlt, hnc, hcm⟩
theorem own_drewS {w : World} {B n s : Nat} {T : TypeId} {v : Value} {xs : List Value} (h : w.ownsRow B T s v n xs) (q : Nat) : (w.drewN q).ownsRow B T s v n xs := h
theorem el_int : Elem Try.prog 72 3 1 8 := by
  obtain ⟨i0, h0, h1, h2, h3⟩ := info_parts info_int
  exact ⟨Try.underlying72, ⟨i0, _, h0, h1, h2, h3, rfl⟩, by decide⟩

set_option maxHeartbeats 4000000 in
set_option maxRecDepth 100000 in
theorem once_any (l : List Int) (A : Option Addr) (c : Nat) (w : World) (hr : Row w w.heap.size A (icells l)) (hl : l.length ≤ 4398046511104) :
    Calls Try.prog 84 #[.slice A l.length c] w (IntsPost (onceI l) w) := by
  have HR := hid hr
  clear hr
  have HF := hid (show onceI l = Lib.compact (isort l) from rfl)
  have hsl := isort_len l
  obtain ⟨s, hs⟩ : ∃ s, s = isort l := ⟨_, rfl⟩
  rw [← hs] at HF hsl
  obtain ⟨V, hV⟩ : ∃ V, V = onceI l := ⟨_, rfl⟩
  rw [← hV] at HF ⊢
  have HSD := hid hs
  clear hV hs
  go_enter Try.func84, Try.ntmps84
  go_wp2_with (at_builtin; refine wpList_append_row el_int rfl _ _ (by rfl) w.heap.size (.slice none 0 0) 0 [] (by rfl) (World.ownsRow_nil _ _ _ _) A l.length c _ (icells l) (by rfl) (by simp) HR.out (icells_one _) (by simp only [maxLen]; omega) (by omega) (Nat.le_refl _) ?_; intro v1 w1 hown1 hg1 _; rw [Nat.zero_add, List.nil_append] at hown1; obtain ⟨A1, c1, rfl⟩ := own_formS hown1)
  have HB1 := hid (below_grown_nil (Below.refl w.heap.size w) hg1)
  have HS := hid (sortI_own l w1 hown1 (by omega))
  have HOL := hid (fun g e => (hown1.lt g e).1)
  have hs1 := hg1.size
  clear hown1 hg1
  go_wp2_with fail
  refine HS.out.mono ?_
  rintro e w2 ⟨rfl, hown2, hg2⟩
  have HB2 := hid (HB1.out.grown hg2 hs1 (fun g e => HOL.out g e))
  rw [← HSD.out] at hown2
  have HOWN2 := hid hown2
  clear hown2 hg2 HOL HS HB1
  go_wp2
  go_loopw [4, 5] (fun s4 s5 wr => ∃ (i kk : Nat) (ds : List Int), i ≤ l.length ∧ s5 = .int .i64 i ∧ s4 = .int .i64 kk ∧ OInv s ds i kk ∧ wr.ownsRow w.heap.size 3 1 (.slice A1 l.length c1) l.length (icells ds) ∧ Below w.heap.size w wr) (fun _ s5 _ => l.length - (intOf s5).toNat)
  case atStart => exact ⟨0, 0, s, by omega, rfl, rfl, OInv.start s, HOWN2.out, HB2.out⟩
  case round =>
    obtain ⟨i, kk, ds, hi, rfl, rfl, hinv, hown, hbw⟩ := hrel
    have HI := hid hinv
    have HOWN := hid hown
    have HBW := hid hbw
    have hkki : kk ≤ i := by rw [hinv.eq]; exact cu_len s i (by omega)
    have hdl := hinv.len
    by_cases hlt : i < l.length
    · obtain ⟨g, hA, hBg, hgs, hcl1, hcl2⟩ := own_addrS hown (by omega)
      subst hA
      have hi' : i < s.length := by omega
      have ei : wr.cell? ⟨g, i, none⟩ = some (.int .i64 s[i]) := by
        rw [hown.cellAt i (by omega), ← hinv.high i hi' (by omega) (Nat.le_refl _)]
        simp [show i < ds.length by omega]
      have fk := hown.frozenAt kk
      have ek : ∃ u, wr.cell? ⟨g, kk, none⟩ = some u := ⟨_, (hown.cellAt kk (by omega)).trans (List.getElem?_eq_getElem (show kk < (icells ds).length by simp; omega))⟩
      obtain ⟨uk, ek⟩ := ek
      have hstore := hown.stored kk (.int .i64 s[i])
      have hset : (icells ds).set kk (.int .i64 s[i]) = icells (ds.set kk s[i]) := by simp [icells, List.map_set]
      rw [hset] at hstore
      have HST := hid hstore
      clear hset hstore
      by_cases h0 : i = 0
      · have t0 : ((i : Int) == 0) = true := by simp [h0]
        have HK := hid (hinv.keep hi' (.inl h0))
        clear h0 hinv hown hbw
        generalize s[i] = x at *
        go_wp2
        refine wp_region_quiet_lit (by kernel_rfl) (by kernel_rfl) ?_
        repeat (any_goals ((with_reducible refine wpQuiet_step (fun K hK => ?_)); go_simp; first | (with_reducible refine hK _ ?_; clear hK K) | ((with_reducible apply Exists.intro); (with_reducible refine ⟨fun _ => ?_, hK _ ?_⟩); (fail); clear hK K) | ((with_reducible refine (if_neg ?_).mpr (hK _ ?_)); (decide); clear hK K) | (split <;> (with_reducible refine hK _ ?_; clear hK K))))
        all_goals ((with_reducible refine wpQuiet_nil ?_); intro _ hw'; obtain ⟨nq, hw''⟩ := hw'; subst hw'')
        go_wp2
        go_roundw
        case rel => exact ⟨i + 1, kk + 1, _, by omega, by go_num, by go_num, HK.out, HST.out.1, (below_drewN HBW.out nq).setCell hBg _⟩
        case measure => simp [intOf]; omega
      · have t0 : ((i : Int) == 0) = false := by simp only [beq_eq_false_iff_ne, ne_eq]; omega
        obtain ⟨hkp, hk1, hpe⟩ := hinv.prev (by omega) (by omega)
        have ep : wr.cell? ⟨g, kk - 1, none⟩ = some (.int .i64 (s[i - 1]'(by omega))) := by
          rw [hown.cellAt (kk - 1) (by omega), ← hpe]
          simp [hkp]
        have z1 : IntKind.i64.wrap ((kk : Int) - 1) = (kk : Int) - 1 := IntWalk.i64_in _ (by omega)
        have z2 : (1 : Int) ≤ (kk : Int) := by omega
        have z3 : (kk : Int) - 1 < (l.length : Int) := by omega
        have z4 : ((kk : Int) - 1).toNat = kk - 1 := by omega
        by_cases hq : s[i] = s[i - 1]'(by omega)
        · have HK := hid (hinv.skip hi' (by simp [h0, hq]))
          have t1 : (s[i] != s[i - 1]'(by omega)) = false := by simp [hq]
          clear hinv hown hbw hpe hq
          generalize s[i - 1]'(by omega) = y at *
          generalize s[i] = x at *
          go_wp2
          refine wp_region_quiet_lit (by kernel_rfl) (by kernel_rfl) ?_
          repeat (any_goals ((with_reducible refine wpQuiet_step (fun K hK => ?_)); go_simp; first | (with_reducible refine hK _ ?_; clear hK K) | ((with_reducible apply Exists.intro); (with_reducible refine ⟨fun _ => ?_, hK _ ?_⟩); (fail); clear hK K) | ((with_reducible refine (if_neg ?_).mpr (hK _ ?_)); (decide); clear hK K) | (split <;> (with_reducible refine hK _ ?_; clear hK K))))
          all_goals ((with_reducible refine wpQuiet_nil ?_); intro _ hw'; obtain ⟨nq, hw''⟩ := hw'; subst hw'')
          go_wp2
          go_roundw
          case rel => exact ⟨i + 1, kk, _, by omega, by go_num, rfl, HK.out, own_drewS HOWN.out nq, below_drewN HBW.out nq⟩
          case measure => simp [intOf]; omega
        · have HK := hid (hinv.keep hi' (.inr hq))
          have t1 : (s[i] != s[i - 1]'(by omega)) = true := by simpa using hq
          clear hinv hown hbw hpe hq
          generalize s[i - 1]'(by omega) = y at *
          generalize s[i] = x at *
          go_wp2
          refine wp_region_quiet_lit (by kernel_rfl) (by kernel_rfl) ?_
          repeat (any_goals ((with_reducible refine wpQuiet_step (fun K hK => ?_)); go_simp; first | (with_reducible refine hK _ ?_; clear hK K) | ((with_reducible apply Exists.intro); (with_reducible refine ⟨fun _ => ?_, hK _ ?_⟩); (fail); clear hK K) | ((with_reducible refine (if_neg ?_).mpr (hK _ ?_)); (decide); clear hK K) | (split <;> (with_reducible refine hK _ ?_; clear hK K))))
          all_goals ((with_reducible refine wpQuiet_nil ?_); intro _ hw'; obtain ⟨nq, hw''⟩ := hw'; subst hw'')
          go_wp2
          go_roundw
          case rel => exact ⟨i + 1, kk + 1, _, by omega, by go_num, by go_num, HK.out, HST.out.1, (below_drewN HBW.out nq).setCell hBg _⟩
          case measure => simp [intOf]; omega
    · have e : i = s.length := by omega
      have hfin : icells (ds.take kk) = icells V := by rw [hinv.low, e, cu_all, HF.out]
      have hlenV : kk = V.length := by
        have h := congrArg List.length hfin
        rw [List.length_map, List.length_map, List.length_take] at h
        omega
      have HFI := hid hfin
      have HLV := hid hlenV
      clear hfin hlenV e
      rcases hown.2 with ⟨hv, hn⟩ | ⟨g, cap, cur, hv, -, -, hnc, hcm, -, -⟩
      · injection hv with hv1 hv2 hv3
        subst hv1 hv3
        have hk0 : kk = 0 := by omega
        subst hk0
        clear hown hbw hinv
        go_wp2
        go_ret
        exact ⟨_, rfl, by rw [← HLV.out, ← HFI.out]; simpa using World.ownsRow_nil _ _ _ _, HBW.out⟩
      · injection hv with hv1 hv2 hv3
        subst hv1 hv3
        have hsh := own_shortI hown (k := kk) (by omega)
        rw [← List.map_take, show List.map (Value.int .i64) (List.take kk ds) = icells V from HFI.out] at hsh
        have HSH := hid hsh
        simp only [maxLen] at hcm
        clear hown hbw hinv hsh
        go_wp2
        go_ret
        exact ⟨_, rfl, by rw [← HLV.out]; exact HSH.out, HBW.out⟩

set_option maxHeartbeats 4000000 in
set_option maxRecDepth 100000 in
theorem Rvalues_any (t : Tab) (key col : Int) (A : Option Addr) (k : Nat) (B : Option Addr) (m : Nat) (w : World) (rb : Row w w.heap.size B (tcells t.cells)) (lb : t.cells.length ≤ 4398046511104) :
    Calls Try.prog 51 #[tval t A k B m, .int .i64 key, .int .i64 col] w (IntsPost (valsL t key col) w) := by
  have RB := hid (fun w1 (hb : Below w.heap.size w w1) => rb.step hb)
  have HV := hid (show valsL t key col = onceI ((t.cells.filter (atKC key col)).map Cel.val) from rfl)
  obtain ⟨V, hV⟩ : ∃ V, V = valsL t key col := ⟨_, rfl⟩
  rw [← hV] at HV ⊢
  clear rb hV
  obtain ⟨⟨c0, c1, c2, c3, cl⟩, l⟩ := t
  obtain ⟨i1, hi0, hz0, hz1, hz2⟩ := info_parts info_int
  simp only [tval] at *
  go_enter Try.func51, Try.ntmps51
  go_wp2
  obtain ⟨W2, hW2⟩ : ∃ W2 : World, W2 = w.alloc (.cells #[.int .i64 c0, .int .i64 c1, .int .i64 c2, .int .i64 c3, .slice A cl.length k, .slice B l.length m] 59) := ⟨_, rfl⟩
  rw [← hW2]
  have HB2 := hid (show Below w.heap.size w W2 by rw [hW2]; (repeat' (first | (with_reducible exact Below.refl _ _) | (with_reducible assumption) | (with_reducible refine below_drewN ?_ _) | (with_reducible refine Below.drew ?_) | (with_reducible refine Below.alloc ?_ ?_ _) | (with_reducible refine Below.setCell ?_ ?_ _) | (refine Below.trans ?_ (Below.mono (by assumption) ?_)) | go_size)))
  have HXT := hid (show Blk W2 w.heap.size #[.int .i64 c0, .int .i64 c1, .int .i64 c2, .int .i64 c3, .slice A cl.length k, .slice B l.length m] 59 by rw [hW2]; exact Blk.new _ _ _)
  have hs2 : w.heap.size ≤ W2.heap.size := HB2.out.size
  clear hW2
  go_loopw [7, 8] (fun so si wr => ∃ i : Nat, i ≤ l.length ∧ si = .int .i64 i ∧ wr.ownsRow W2.heap.size 3 1 so (((l.take i).filter (atKC key col)).map Cel.val).length (icells (((l.take i).filter (atKC key col)).map Cel.val)) ∧ Below W2.heap.size W2 wr) (fun so si _ => l.length - (intOf si).toNat)
  case atStart => exact ⟨0, by omega, rfl, by simpa using World.ownsRow_nil _ _ _ _, Below.refl _ _⟩
  case round =>
    obtain ⟨i, hi, rfl, hown, hbw⟩ := hrel
    have hst : ∀ hj : i < l.length, ((l.take (i + 1)).filter (atKC key col)).map Cel.val = ((l.take i).filter (atKC key col)).map Cel.val ++ (if atKC key col l[i] = true then [l[i].val] else []) := by
      intro hj
      rw [List.take_succ_eq_append_getElem hj, List.filter_append, List.map_append, List.filter_cons, List.filter_nil]
      split <;> simp
    have hol : (((l.take i).filter (atKC key col)).map Cel.val).length ≤ 4398046511104 := by
      have := List.length_filter_le (atKC key col) (l.take i)
      rw [List.length_take] at this
      rw [List.length_map]
      omega
    have hfin : ¬ i < l.length → onceI (((l.take i).filter (atKC key col)).map Cel.val) = V := fun h => by rw [HV.out, List.take_of_length_le (by omega)]
    obtain ⟨O, hO⟩ : ∃ O, O = ((l.take i).filter (atKC key col)).map Cel.val := ⟨_, rfl⟩
    rw [← hO] at hown hst hol hfin
    clear hO
    obtain ⟨A8, c8, rfl⟩ := own_formS hown
    have hB := Below.step' HB2.out hbw
    have HOWN := hid hown
    have HBW := hid hbw
    have HBB := hid hB
    have HFIN := hid hfin
    have HXR := hid (HXT.out.step hbw)
    clear hown hbw hB hfin
    by_cases hlt : i < l.length
    · obtain ⟨b, off, hA, hb, e0, e1, e2, e3, e4⟩ := (RB.out wr HBB.out).cel hlt
      subst hA
      have HST := hid (hst hlt)
      clear hst
      generalize l[i] = x at *
      obtain ⟨⟨d0, d1⟩, ky, co, vl⟩ := x
      simp only at e0 e1 e2 e3 e4
      have hneb : (b = wr.heap.size) = False := by simp; omega
      have hsw := HBW.out.size
      obtain ⟨cHXR, fHXR, sHXR, nHXR⟩ := HXR.out.all
      try simp only [cbox] at cHXR
      cases q1 : (ky == key)
      · have HQ := hid (show atKC key col ⟨(d0, d1), ky, co, vl⟩ = false by simp only [atKC, q1, Bool.false_and])
        go_wp2
        go_roundw
        case rel => exact ⟨i + 1, by omega, by go_num, by rw [HST.out, HQ.out, if_neg (by simp), List.append_nil]; exact HOWN.out, HBW.out⟩
        case measure => simp [intOf]; omega
      · cases q2 : (co == col)
        · have HQ := hid (show atKC key col ⟨(d0, d1), ky, co, vl⟩ = false by simp only [atKC, q1, q2, Bool.and_false])
          go_wp2
          go_roundw
          case rel => exact ⟨i + 1, by omega, by go_num, by rw [HST.out, HQ.out, if_neg (by simp), List.append_nil]; exact HOWN.out, HBW.out⟩
          case measure => simp [intOf]; omega
        · have HQ := hid (show atKC key col ⟨(d0, d1), ky, co, vl⟩ = true by simp only [atKC, q1, q2, Bool.and_true])
          go_wp2_with (at_builtin; refine wpList_append_own _ rfl _ _ 72 rfl W2.heap.size 3 i1 _ 1 8 Try.underlying72 hi0 hz0 hz1 hz2 rfl (by decide) _ _ _ rfl (HOWN.out.alloc _) ⟨wr.heap.size, 0, none⟩ 1 1 (icells [vl]) rfl rfl (newsI wr vl _ _ rfl) (icells_one _) ?_ ?_ ?_ ?_; rotate_right; intro v6 w6 hown6 hg6 _; rotate_left; (simp only [maxLen]; omega); (omega); (simp; omega))
          go_roundw
          case rel =>
            refine ⟨i + 1, by omega, by go_num, ?_, (HBW.out.alloc HBW.out.size _).grown hg6 (by simp; omega) (fun g e => (HOWN.out.lt g e).1)⟩
            rw [HST.out, HQ.out, if_pos rfl, icells_snoc]
            simpa using hown6
          case measure => simp [intOf]; omega
    · have hfin := HFIN.out hlt
      have HON := hid (once_any O A8 c8 wr (Row.of_ownS HOWN.out) (by omega))
      rw [hfin] at HON
      obtain ⟨cHXR, fHXR, sHXR, nHXR⟩ := HXR.out.all
      try simp only [cbox] at cHXR
      clear hst hfin
      go_wp2_with fail
      refine HON.out.mono ?_
      rintro e w6 ⟨v6, rfl, hown6, hb6⟩
      have HO6 := hid hown6
      have HB6 := hid (Below.step' HBB.out hb6)
      have hs6 := HBB.out.size
      clear hown6 hb6
      go_wp2
      go_ret
      exact ⟨v6, rfl, own_baseS HO6.out hs6, HB6.out⟩

set_option maxHeartbeats 4000000 in
set_option maxRecDepth 100000 in
theorem Rkeys_any (t : Tab) (A : Option Addr) (k : Nat) (B : Option Addr) (m : Nat) (w : World) (rb : Row w w.heap.size B (tcells t.cells)) (lb : t.cells.length ≤ 4398046511104) :
    Calls Try.prog 53 #[tval t A k B m] w (IntsPost (keysL t) w) := by
  have RB := hid (fun w1 (hb : Below w.heap.size w w1) => rb.step hb)
  have HV := hid (show keysL t = onceI (t.cells.map Cel.key) from rfl)
  obtain ⟨V, hV⟩ : ∃ V, V = keysL t := ⟨_, rfl⟩
  rw [← hV] at HV ⊢
  clear rb hV
  obtain ⟨⟨c0, c1, c2, c3, cl⟩, l⟩ := t
  obtain ⟨i1, hi0, hz0, hz1, hz2⟩ := info_parts info_int
  simp only [tval] at *
  go_enter Try.func53, Try.ntmps53
  go_wp2
  obtain ⟨W2, hW2⟩ : ∃ W2 : World, W2 = w.alloc (.cells #[.int .i64 c0, .int .i64 c1, .int .i64 c2, .int .i64 c3, .slice A cl.length k, .slice B l.length m] 59) := ⟨_, rfl⟩
  rw [← hW2]
  have HB2 := hid (show Below w.heap.size w W2 by rw [hW2]; (repeat' (first | (with_reducible exact Below.refl _ _) | (with_reducible assumption) | (with_reducible refine below_drewN ?_ _) | (with_reducible refine Below.drew ?_) | (with_reducible refine Below.alloc ?_ ?_ _) | (with_reducible refine Below.setCell ?_ ?_ _) | (refine Below.trans ?_ (Below.mono (by assumption) ?_)) | go_size)))
  have HXT := hid (show Blk W2 w.heap.size #[.int .i64 c0, .int .i64 c1, .int .i64 c2, .int .i64 c3, .slice A cl.length k, .slice B l.length m] 59 by rw [hW2]; exact Blk.new _ _ _)
  have hs2 : w.heap.size ≤ W2.heap.size := HB2.out.size
  clear hW2
  go_loopw [3, 4] (fun so si wr => ∃ i : Nat, i ≤ l.length ∧ si = .int .i64 i ∧ wr.ownsRow W2.heap.size 3 1 so ((l.take i).map Cel.key).length (icells ((l.take i).map Cel.key)) ∧ Below W2.heap.size W2 wr) (fun so si _ => l.length - (intOf si).toNat)
  case atStart => exact ⟨0, by omega, rfl, by simpa using World.ownsRow_nil _ _ _ _, Below.refl _ _⟩
  case round =>
    obtain ⟨i, hi, rfl, hown, hbw⟩ := hrel
    have hst : ∀ hj : i < l.length, (l.take (i + 1)).map Cel.key = (l.take i).map Cel.key ++ [l[i].key] := by
      intro hj
      rw [List.take_succ_eq_append_getElem hj, List.map_append]; rfl
    have hol : ((l.take i).map Cel.key).length ≤ 4398046511104 := by
      rw [List.length_map, List.length_take]
      omega
    have hfin : ¬ i < l.length → onceI ((l.take i).map Cel.key) = V := fun h => by rw [HV.out, List.take_of_length_le (by omega)]
    obtain ⟨O, hO⟩ : ∃ O, O = (l.take i).map Cel.key := ⟨_, rfl⟩
    rw [← hO] at hown hst hol hfin
    clear hO
    obtain ⟨A8, c8, rfl⟩ := own_formS hown
    have hB := Below.step' HB2.out hbw
    have HOWN := hid hown
    have HBW := hid hbw
    have HBB := hid hB
    have HFIN := hid hfin
    have HXR := hid (HXT.out.step hbw)
    clear hown hbw hB hfin
    by_cases hlt : i < l.length
    · obtain ⟨b, off, hA, hb, e0, e1, e2, e3, e4⟩ := (RB.out wr HBB.out).cel hlt
      subst hA
      have HST := hid (hst hlt)
      clear hst
      generalize l[i] = x at *
      obtain ⟨⟨d0, d1⟩, ky, co, vl⟩ := x
      simp only at e0 e1 e2 e3 e4
      have hneb : (b = wr.heap.size) = False := by simp; omega
      have hsw := HBW.out.size
      obtain ⟨cHXR, fHXR, sHXR, nHXR⟩ := HXR.out.all
      try simp only [cbox] at cHXR
      go_wp2_with (at_builtin; refine wpList_append_own _ rfl _ _ 72 rfl W2.heap.size 3 i1 _ 1 8 Try.underlying72 hi0 hz0 hz1 hz2 rfl (by decide) _ _ _ rfl (HOWN.out.alloc _) ⟨wr.heap.size, 0, none⟩ 1 1 (icells [ky]) rfl rfl (newsI wr ky _ _ rfl) (icells_one _) ?_ ?_ ?_ ?_; rotate_right; intro v6 w6 hown6 hg6 _; rotate_left; (simp only [maxLen]; omega); (omega); (simp; omega))
      go_roundw
      case rel =>
        refine ⟨i + 1, by omega, by go_num, ?_, (HBW.out.alloc HBW.out.size _).grown hg6 (by simp; omega) (fun g e => (HOWN.out.lt g e).1)⟩
        rw [HST.out, icells_snoc]
        simpa using hown6
      case measure => simp [intOf]; omega
    · have hfin := HFIN.out hlt
      have HON := hid (once_any O A8 c8 wr (Row.of_ownS HOWN.out) (by omega))
      rw [hfin] at HON
      obtain ⟨cHXR, fHXR, sHXR, nHXR⟩ := HXR.out.all
      try simp only [cbox] at cHXR
      clear hst hfin
      go_wp2_with fail
      refine HON.out.mono ?_
      rintro e w6 ⟨v6, rfl, hown6, hb6⟩
      have HO6 := hid hown6
      have HB6 := hid (Below.step' HBB.out hb6)
      have hs6 := HBB.out.size
      clear hown6 hb6
      go_wp2
      go_ret
      exact ⟨v6, rfl, own_baseS HO6.out hs6, HB6.out⟩
end Go.Proofs.Ytogegnikpjcpdaa
/- viewlaw.DotSays$1, viewlaw.DotSays: the first walk. -/
namespace Go.Proofs.Ytogegnikpjcpdaa
set_option linter.unusedVariables false
open Go.ChangeShapes Go.WideShapes Go.ChangeAt Go.RowKit

theorem RnotRight_any (d : Int × Int) (w : World) :
    Calls Try.prog 18 #[dval d] w fun e w' => e = .returned (.bool (!rightB d.1 d.2)) ∧ Below w.heap.size w w' := by
  obtain ⟨n, s⟩ := d
  simp only [dval]
  go_enter Try.func18, Try.ntmps18
  go_wp2_with (go_at_call 19; refine (Rright_any _ _ _).mono ?_; rintro e w' ⟨rfl, hb⟩)
  go_ret
  exact ⟨rfl, by (repeat' (first | (with_reducible exact Below.refl _ _) | (with_reducible assumption) | (with_reducible refine below_drewN ?_ _) | (with_reducible refine Below.drew ?_) | (with_reducible refine Below.alloc ?_ ?_ _) | (with_reducible refine Below.setCell ?_ ?_ _) | (refine Below.trans ?_ (Below.mono (by assumption) ?_)) | go_size))⟩

theorem enters_saysF : ∀ args w, (callFunc 18 args).run Try.prog w = .ok (.enter 18 args) w := enters_of Try.func18 (by kernel_rfl) rfl
theorem predSays (l : List (Int × Int)) (w : World) : PredD 18 #[] (fun d => !rightB d.1 d.2) l w := fun w' _ d _ => RnotRight_any d w'

theorem packStep_len (c : Ctx) (d : Int × Int) : (packStep c d).cloud.length ≤ c.cloud.length + 1 := by
  unfold packStep
  split
  · omega
  · split
    · rw [inc_cloud]; omega
    · simp
theorem foldl_len : ∀ (l : List (Int × Int)) (c : Ctx), (l.foldl packStep c).cloud.length ≤ c.cloud.length + l.length
  | [], c => by simp
  | d :: l, c => by
    have h1 := foldl_len l (packStep c d)
    have h2 := packStep_len c d
    simp only [List.foldl_cons, List.length_cons]
    omega
theorem makeC_len (l : List (Int × Int)) : (makeC l).cloud.length ≤ 400 := by
  unfold makeC
  split
  · simp
  · split
    · simp
    · have h1 := foldl_len (cpt (l.mergeSort dotLe)) ⟨0, 0, 0, 0, []⟩
      have h2 := cpt_length (l.mergeSort dotLe)
      rw [List.length_mergeSort] at h2
      simp only [List.length_nil] at h1
      unfold packL
      omega

set_option maxHeartbeats 1000000 in
set_option maxRecDepth 100000 in
theorem says_any (c : Ctx) (d : Int × Int) (l : List (Int × Int)) (i : Int) (A B : Option Addr) (k0 k1 : Nat) (w : World) (hr : Row w w.heap.size A (dcells c.cloud)) (hl : c.cloud.length ≤ 9223372036854775807)
    (hs : Row w w.heap.size B (dcells l)) (hm : l.length ≤ 9223372036854775807) :
    Calls Try.prog 3 #[cval c A k0, dval d, .slice B l.length k1, .int .i64 i] w fun e w' => e = .returned (.bool true) ∧ Below w.heap.size w w' := by
  have HCK := hid (fun w1 (hb : Below w.heap.size w w1) => context_any c A k0 w1 ((hr.below hb (Nat.le_refl _)).more hb.size) hl)
  have HMK := hid (fun w1 (hb : Below w.heap.size w w1) => make_any l B k1 w1 ((hs.below hb (Nat.le_refl _)).more hb.size) hm)
  have HCF := hid (fun w1 (hb : Below w.heap.size w w1) => containsFunc_any 18 #[] (fun d => !rightB d.1 d.2) l B k1 w1 ((hs.below hb (Nat.le_refl _)).more hb.size) hm enters_saysF (predSays l w1))
  have HPK := hid (fun w1 (hb : Below w.heap.size w w1) (h4 : l.length ≤ 400) hrt => Rpacked_any 0 0 0 0 l B k1 w1 ((hs.below hb (Nat.le_refl _)).more hb.size) (by omega) (by simp [clkIn]) hrt)
  have HNX := hid (fun w1 (hb : Below w.heap.size w w1) => next_any c i A k0 w1 ((hr.below hb (Nat.le_refl _)).more hb.size) hl)
  have HRN := hid (fun w1 (hb : Below w.heap.size w w1) (hc : clkIn c) h0 h4 => Rnext_any c i A k0 w1 ((hr.below hb (Nat.le_refl _)).more hb.size) hl hc h0 h4)
  have HCH := hid (fun w1 (hb : Below w.heap.size w w1) => check_any c A k0 w1 ((hr.below hb (Nat.le_refl _)).more hb.size) hl)
  have HHS := hid (fun w1 (hb : Below w.heap.size w w1) => has_any c d A k0 w1 ((hr.below hb (Nat.le_refl _)).more hb.size) hl)
  have HRH := hid (fun w1 (hb : Below w.heap.size w w1) => Rhas_any c d A k0 w1 ((hr.below hb (Nat.le_refl _)).more hb.size) hl)
  have HR := hid hr
  have HS := hid hs
  obtain ⟨d0, d1⟩ := d
  clear hr hs
  simp only [cval, dval] at *
  go_enter Try.func3, Try.ntmps3
  go_wp2_with fail
  refine (HCK.out _ (by (repeat' (first | (with_reducible exact Below.refl _ _) | (with_reducible assumption) | (with_reducible refine below_drewN ?_ _) | (with_reducible refine Below.drew ?_) | (with_reducible refine Below.alloc ?_ ?_ _) | (with_reducible refine Below.setCell ?_ ?_ _) | (refine Below.trans ?_ (Below.mono (by assumption) ?_)) | go_size)))).mono ?_
  rintro e w1 ⟨rfl, hb1⟩
  have hB1 : Below w.heap.size w w1 := Below.trans (b := (w.alloc _).alloc _) (by (repeat' (first | (with_reducible exact Below.refl _ _) | (with_reducible assumption) | (with_reducible refine below_drewN ?_ _) | (with_reducible refine Below.drew ?_) | (with_reducible refine Below.alloc ?_ ?_ _) | (with_reducible refine Below.setCell ?_ ?_ _) | (refine Below.trans ?_ (Below.mono (by assumption) ?_)) | go_size))) (hb1.mono (by simp; omega))
  go_wp2_with fail
  refine (HMK.out _ hB1).mono ?_
  rintro e w2 ⟨AM, km, rfl, hrm, hb2, hnm⟩
  have HB1 := hid hb1
  have HBB1 := hid hB1
  have HB2 := hid hb2
  have HRM := hid hrm
  clear hb1 hB1 hb2 hrm hnm
  go_upto_block 0 with fail
  obtain ⟨w3, hw3⟩ : ∃ w3, w3 = ((w2.alloc (.cells #[.int .i64 (makeC l).c0, .int .i64 (makeC l).c1, .int .i64 (makeC l).c2, .int .i64 (makeC l).c3, .slice AM (makeC l).cloud.length km] 25)).alloc (.cells #[.int .i64 0, .int .i64 0, .int .i64 0, .int .i64 0, .slice none 0 0] 25)) := ⟨_, rfl⟩
  rw [← hw3]
  have HW3 := hid hw3
  clear hw3
  go_cut [13] from 25 to 34 (fun s13 wx => s13 = .int .i64 (makeE l) ∧ ∃ A2 k2, wx.heap[w2.heap.size + 1]? = some (.cells #[.int .i64 (makeC l).c0, .int .i64 (makeC l).c1, .int .i64 (makeC l).c2, .int .i64 (makeC l).c3, .slice A2 (makeC l).cloud.length k2] 25 (0, 0)) ∧ Row wx wx.heap.size A2 (dcells (makeC l).cloud) ∧ Below (w2.heap.size + 1) w3 wx)
  case first =>
    have hw3 := HW3.out
    have hs3 : w3.heap.size = w2.heap.size + 1 + 1 := by rw [hw3]; simp
    have hB3 : Below w.heap.size w w3 := by
      have h1 := HBB1.out.trans (HB2.out.mono HBB1.out.size)
      have h2 := h1.size
      rw [hw3]
      exact (h1.alloc (by omega) _).alloc (by simp; omega) _
    have hR3 : w3.heap[w2.heap.size + 1]? = some (.cells #[.int .i64 0, .int .i64 0, .int .i64 0, .int .i64 0, .slice none 0 0] 25 (0, 0)) := by
      have := heap_alloc_new (w2.alloc (.cells #[.int .i64 (makeC l).c0, .int .i64 (makeC l).c1, .int .i64 (makeC l).c2, .int .i64 (makeC l).c3, .slice AM (makeC l).cloud.length km] 25)) (.cells #[.int .i64 0, .int .i64 0, .int .i64 0, .int .i64 0, .slice none 0 0] 25)
      rw [hw3]; simpa using this
    have HR3 := hid hR3
    have HB3 := hid hB3
    have HS3 := hid hs3
    clear hw3 hs3 hB3 hR3
    by_cases h4 : 400 < l.length
    · have hc : makeC l = ⟨0, 0, 0, 0, []⟩ := by simp [makeC, h4]
      have he : makeE l = 2 := by simp [makeE, h4]
      have hd : decide ((400 : Int) < (l.length : Int)) = true := by simp; omega
      have HC := hid hc
      have HE := hid he
      clear hc he
      go_wp2
      go_meet
      case rel => exact ⟨by rw [HE.out], none, 0, by rw [HC.out]; exact HR3.out, by rw [HC.out]; exact Row.nil, Below.refl _ _⟩
    · have hd : decide ((400 : Int) < (l.length : Int)) = false := by simp; omega
      cases hany : l.any (fun d => !rightB d.1 d.2)
      · have hc : makeC l = packL 0 0 0 0 l := by rw [makeC, if_neg h4, if_neg (by simp [hany])]
        have he : makeE l = 0 := by rw [makeE, if_neg h4, if_neg (by simp [hany])]
        have hrt : ∀ d ∈ l, rightB d.1 d.2 = true := fun d hd => by
          rw [List.any_eq_false] at hany
          have := hany d hd
          simpa using this
        rw [hany] at HCF
        have HC := hid hc
        have HE := hid he
        have HRT := hid hrt
        clear hc he hrt hany
        go_wp2_with fail
        refine (HCF.out _ HB3.out).mono ?_
        rintro e w4 ⟨rfl, hb4⟩
        have hB4 := HB3.out.trans (hb4.mono HB3.out.size)
        go_wp2_with fail
        refine (HPK.out _ hB4 (by omega) HRT.out).mono ?_
        rintro e w5 ⟨A', kk, rfl, hrow, hb5, hnew⟩
        rw [← HC.out] at hrow
        rw [← HC.out]
        have hs4 := hb4.size
        have hB5 := hb4.trans (hb5.mono hb4.size)
        have hlt : w2.heap.size + 1 < w3.heap.size := by have := HS3.out; omega
        have hR5 := (hB5.block (w2.heap.size + 1) hlt).trans HR3.out
        have HROW := hid hrow
        have HB5 := hid hB5
        have HNEW := hid hnew
        have HRR := hid hR5
        have f0 := fun j => frozen_of_row w5 (w2.heap.size + 1) j _ _ hR5
        have r0 : w5.cell? ⟨w2.heap.size + 1, 0, none⟩ = some (.int .i64 0) := (cell_of_row w5 _ 0 _ _ _ hR5).trans rfl
        have r1 : w5.cell? ⟨w2.heap.size + 1, 1, none⟩ = some (.int .i64 0) := (cell_of_row w5 _ 1 _ _ _ hR5).trans rfl
        have r2 : w5.cell? ⟨w2.heap.size + 1, 2, none⟩ = some (.int .i64 0) := (cell_of_row w5 _ 2 _ _ _ hR5).trans rfl
        have r3 : w5.cell? ⟨w2.heap.size + 1, 3, none⟩ = some (.int .i64 0) := (cell_of_row w5 _ 3 _ _ _ hR5).trans rfl
        have r4 : w5.cell? ⟨w2.heap.size + 1, 4, none⟩ = some (.slice none 0 0) := (cell_of_row w5 _ 4 _ _ _ hR5).trans rfl
        clear hb4 hB4 hrow hb5 hnew hB5 hR5
        go_wp2
        go_meet
        case rel =>
          refine ⟨by rw [HE.out], A', kk, heap_setCell_same _ _ 4 _ _ _ (heap_setCell_same _ _ 3 _ _ _ (heap_setCell_same _ _ 2 _ _ _ (heap_setCell_same _ _ 1 _ _ _ (heap_setCell_same w5 _ 0 _ _ _ HRR.out)))), ?_, ?_⟩
          · have hn : NewAt (w2.heap.size + 1 + 1) A' := fun b off q e => by have := HNEW.out b off q e; have := HS3.out; omega
            have h5 := ((((HROW.out.setCell_new hn (a := ⟨w2.heap.size + 1, 0, none⟩) (Nat.lt_succ_self _) (.int .i64 (makeC l).c0)).setCell_new hn (a := ⟨w2.heap.size + 1, 1, none⟩) (Nat.lt_succ_self _) (.int .i64 (makeC l).c1)).setCell_new hn (a := ⟨w2.heap.size + 1, 2, none⟩) (Nat.lt_succ_self _) (.int .i64 (makeC l).c2)).setCell_new hn (a := ⟨w2.heap.size + 1, 3, none⟩) (Nat.lt_succ_self _) (.int .i64 (makeC l).c3)).setCell_new hn (a := ⟨w2.heap.size + 1, 4, none⟩) (Nat.lt_succ_self _) (.slice A' (makeC l).cloud.length kk)
            exact h5.more (by simp)
          · have h5 := HB5.out.mono (B' := w2.heap.size + 1) (by omega)
            exact ((((h5.setCell (p := ⟨w2.heap.size + 1, 0, none⟩) (Nat.le_refl _) _).setCell (p := ⟨w2.heap.size + 1, 1, none⟩) (Nat.le_refl _) _).setCell (p := ⟨w2.heap.size + 1, 2, none⟩) (Nat.le_refl _) _).setCell (p := ⟨w2.heap.size + 1, 3, none⟩) (Nat.le_refl _) _).setCell (p := ⟨w2.heap.size + 1, 4, none⟩) (Nat.le_refl _) _
      · have hc : makeC l = ⟨0, 0, 0, 0, []⟩ := by rw [makeC, if_neg h4, if_pos hany]
        have he : makeE l = 5 := by rw [makeE, if_neg h4, if_pos hany]
        rw [hany] at HCF
        have HC := hid hc
        have HE := hid he
        clear hc he hany
        go_wp2_with fail
        refine (HCF.out _ HB3.out).mono ?_
        rintro e w4 ⟨rfl, hb4⟩
        have HB4 := hid hb4
        clear hb4
        go_wp2
        go_meet
        case rel => exact ⟨by rw [HE.out], none, 0, by rw [HC.out]; exact (HB4.out.block _ (by have := HS3.out; omega)).trans HR3.out, by rw [HC.out]; exact Row.nil, HB4.out.mono (by have := HS3.out; omega)⟩
  case rest =>
    obtain ⟨rfl, A2, k2, hm2, hrow2, hbw2⟩ := hcut
    obtain ⟨wm, rfl⟩ : ∃ wm : World, wm = wc := ⟨_, rfl⟩
    have hw3 := HW3.out
    clear HCF HPK HMK HS HW3
    have hml := makeC_len l
    generalize makeC l = M at *
    generalize makeE l = F at *
    have hml2 : M.cloud.length ≤ 9223372036854775807 := by omega
    have HML := hid hml2
    clear hml hml2
    have hs3 : w3.heap.size = w2.heap.size + 1 + 1 := by rw [hw3]; simp
    have h1s := HB1.out.size
    simp only [World.size_alloc] at h1s
    have h2s := HB2.out.size
    have h3s := hbw2.size
    have hM : wm.heap[w2.heap.size]? = some (.cells #[.int .i64 M.c0, .int .i64 M.c1, .int .i64 M.c2, .int .i64 M.c3, .slice AM M.cloud.length km] 25 (0, 0)) := by
      refine (hbw2.block _ (by omega)).trans ?_
      rw [hw3]
      exact (Below.heap_alloc _ _ _ (by simp)).trans (heap_alloc_new w2 _)
    have h32 : Below w2.heap.size w2 w3 := by
      rw [hw3]
      exact ((Below.refl _ w2).alloc (Nat.le_refl _) _).alloc (by simp) _
    have h2c : Below w2.heap.size w2 wm := h32.trans (hbw2.mono (by omega))
    have h1c : Below w1.heap.size w1 wm := HB2.out.trans (h2c.mono h2s)
    have hBc : Below w.heap.size w wm := HBB1.out.trans (h1c.mono (by omega))
    have hC : wm.heap[w.heap.size]? = some (.cells #[.int .i64 c.c0, .int .i64 c.c1, .int .i64 c.c2, .int .i64 c.c3, .slice A c.cloud.length k0] 25 (0, 0)) := by
      refine ((h1c.block _ (by omega)).trans (HB1.out.block _ (by simp; omega))).trans ?_
      exact (Below.heap_alloc _ _ _ (by simp)).trans (heap_alloc_new w _)
    have hD : wm.heap[w.heap.size + 1]? = some (.cells #[.int .i64 d0, .int .i64 d1] 27 (0, 0)) := by
      refine ((h1c.block _ (by omega)).trans (HB1.out.block _ (by simp))).trans ?_
      have := heap_alloc_new (w.alloc (.cells #[.int .i64 c.c0, .int .i64 c.c1, .int .i64 c.c2, .int .i64 c.c3, .slice A c.cloud.length k0] 25)) (.cells #[.int .i64 d0, .int .i64 d1] 27)
      simpa using this
    have hrm : Row wm wm.heap.size AM (dcells M.cloud) := (HRM.out.below h2c (Nat.le_refl _)).more (by omega)
    have HC := hid hC
    have HDD := hid hD
    have HM := hid hM
    have HM2 := hid hm2
    have HRM := hid hrm
    have HRM2 := hid hrow2
    have HBC := hid hBc
    have hwc : w2.heap.size + 1 < wm.heap.size := by omega
    have hw2 : w.heap.size + 1 < w2.heap.size := by omega
    have cc0 : wm.cell? ⟨w.heap.size, 0, none⟩ = some (.int .i64 c.c0) := (cell_of_row wm _ 0 _ _ _ hC).trans rfl
    have cc1 : wm.cell? ⟨w.heap.size, 1, none⟩ = some (.int .i64 c.c1) := (cell_of_row wm _ 1 _ _ _ hC).trans rfl
    have cc2 : wm.cell? ⟨w.heap.size, 2, none⟩ = some (.int .i64 c.c2) := (cell_of_row wm _ 2 _ _ _ hC).trans rfl
    have cc3 : wm.cell? ⟨w.heap.size, 3, none⟩ = some (.int .i64 c.c3) := (cell_of_row wm _ 3 _ _ _ hC).trans rfl
    have cc4 : wm.cell? ⟨w.heap.size, 4, none⟩ = some (.slice A c.cloud.length k0) := (cell_of_row wm _ 4 _ _ _ hC).trans rfl
    have hne : (w.heap.size = wm.heap.size) = False := by simp; omega
    have hlt : w.heap.size < wm.heap.size := by omega
    have hlt1 : w.heap.size < wm.heap.size + 1 := by omega
    clear hM hm2 hrow2 hbw2 hC hD hrm hw3 hs3 h32 h2c h1c hBc h1s h2s h3s HB1 HBB1 HB2
    go_upto_if 37 with fail
    go_cut [15] from 37 to 45 (fun s15 wx => s15 = .int .i64 (nextE c i) ∧ wx.heap[wm.heap.size]? = some (.cells #[.int .i64 (nextD c i).1, .int .i64 (nextD c i).2] 27 (0, 0)) ∧ Below wm.heap.size wm wx)
    case first =>
      have hQ : (wm.alloc (.cells #[.int .i64 0, .int .i64 0] 27)).heap[wm.heap.size]? = some (.cells #[.int .i64 0, .int .i64 0] 27 (0, 0)) := heap_alloc_new wm _
      have HQ := hid hQ
      clear hQ
      by_cases qE : checkI c = 0
      rotate_left
      · have qe : (checkI c == 0) = false := by simp [qE]
        have h1 : nextD c i = (0, 0) := by unfold nextD; rw [if_pos qE]
        have h2 : nextE c i = checkI c := by unfold nextE; rw [if_pos qE]
        have H1 := hid h1
        have H2 := hid h2
        clear h1 h2 qE
        go_wp2
        go_meet
        case rel => exact ⟨by rw [H2.out], by rw [H1.out]; exact HQ.out, by (repeat' (first | (with_reducible exact Below.refl _ _) | (with_reducible assumption) | (with_reducible refine below_drewN ?_ _) | (with_reducible refine Below.drew ?_) | (with_reducible refine Below.alloc ?_ ?_ _) | (with_reducible refine Below.setCell ?_ ?_ _) | (refine Below.trans ?_ (Below.mono (by assumption) ?_)) | go_size))⟩
      · have qe : (checkI c == 0) = true := by simp [qE]
        obtain ⟨hci, -, -⟩ := checkI_zero qE
        by_cases qi : inB i 0 3 = true
        rotate_left
        · have qf : inB i 0 3 = false := by simpa using qi
          have h1 : nextD c i = (0, 0) := by unfold nextD; rw [if_neg (by simp [qE]), if_pos qf]
          have h2 : nextE c i = 1 := by unfold nextE; rw [if_neg (by simp [qE]), if_pos qf]
          have H1 := hid h1
          have H2 := hid h2
          clear h1 h2 qE qi hci
          go_wp2_with (go_at_call 21; refine (in_any _ _ _ _).mono ?_; rintro e w' ⟨rfl, rfl⟩)
          go_meet
          case rel => exact ⟨by rw [H2.out], by rw [H1.out]; exact HQ.out, by (repeat' (first | (with_reducible exact Below.refl _ _) | (with_reducible assumption) | (with_reducible refine below_drewN ?_ _) | (with_reducible refine Below.drew ?_) | (with_reducible refine Below.alloc ?_ ?_ _) | (with_reducible refine Below.setCell ?_ ?_ _) | (refine Below.trans ?_ (Below.mono (by assumption) ?_)) | go_size))⟩
        · have qf : 0 ≤ i ∧ i ≤ 3 := by simpa [inB] using qi
          have h1 : nextD c i = rnextD c i := by unfold nextD; rw [if_neg (by simp [qE]), if_neg (by simp [qi])]
          have h2 : nextE c i = rnextE c i := by unfold nextE; rw [if_neg (by simp [qE]), if_neg (by simp [qi])]
          have H1 := hid h1
          have H2 := hid h2
          obtain ⟨i0, i3⟩ := qf
          have HCI := hid hci
          clear h1 h2 qE hci
          go_wp2_with (go_at_call 21; refine (in_any _ _ _ _).mono ?_; rintro e w' ⟨rfl, rfl⟩)
          refine (HRN.out _ (HBC.out.alloc (by omega) _) HCI.out i0 (by omega)).mono ?_
          rintro e w5 ⟨rfl, hb5⟩
          rw [← H1.out, ← H2.out]
          have hQ5 := (hb5.block wm.heap.size (by simp)).trans HQ.out
          have hb6 := ((Below.refl wm.heap.size wm).alloc (Nat.le_refl _) (.cells #[.int .i64 0, .int .i64 0] 27)).trans (hb5.mono (by simp))
          have HQ5 := hid hQ5
          have HB6 := hid hb6
          have f0 := fun j => frozen_of_row w5 wm.heap.size j _ _ hQ5
          have r0 : w5.cell? ⟨wm.heap.size, 0, none⟩ = some (.int .i64 0) := (cell_of_row w5 _ 0 _ _ _ hQ5).trans rfl
          have r1 : w5.cell? ⟨wm.heap.size, 1, none⟩ = some (.int .i64 0) := (cell_of_row w5 _ 1 _ _ _ hQ5).trans rfl
          clear hb5 hQ5 hb6
          simp only [dval]
          go_wp2
          go_meet
          case rel => exact ⟨rfl, heap_setCell_same _ _ 1 _ _ _ (heap_setCell_same w5 _ 0 _ _ _ HQ5.out), (HB6.out.setCell (p := ⟨wm.heap.size, 0, none⟩) (Nat.le_refl _) _).setCell (p := ⟨wm.heap.size, 1, none⟩) (Nat.le_refl _) _⟩
    case rest =>
      obtain ⟨rfl, hn2, hbx⟩ := hcut
      obtain ⟨wx, rfl⟩ : ∃ wx : World, wx = wc := ⟨_, rfl⟩
      have hwx : wm.heap.size < wx.heap.size := by
        rcases Nat.lt_or_ge wm.heap.size wx.heap.size with h | h
        · exact h
        · rw [Array.getElem?_eq_none h] at hn2; cases hn2
      have hBx := HBC.out.trans (hbx.mono (by omega))
      have e0 : wx.cell? ⟨w.heap.size, 0, none⟩ = some (.int .i64 c.c0) := (cell_of_row wx _ 0 _ _ _ ((hbx.block _ hlt).trans HC.out)).trans rfl
      have e1 : wx.cell? ⟨w.heap.size, 1, none⟩ = some (.int .i64 c.c1) := (cell_of_row wx _ 1 _ _ _ ((hbx.block _ hlt).trans HC.out)).trans rfl
      have e2 : wx.cell? ⟨w.heap.size, 2, none⟩ = some (.int .i64 c.c2) := (cell_of_row wx _ 2 _ _ _ ((hbx.block _ hlt).trans HC.out)).trans rfl
      have e3 : wx.cell? ⟨w.heap.size, 3, none⟩ = some (.int .i64 c.c3) := (cell_of_row wx _ 3 _ _ _ ((hbx.block _ hlt).trans HC.out)).trans rfl
      have e4 : wx.cell? ⟨w.heap.size, 4, none⟩ = some (.slice A c.cloud.length k0) := (cell_of_row wx _ 4 _ _ _ ((hbx.block _ hlt).trans HC.out)).trans rfl
      have HBX := hid hbx
      have HN2 := hid hn2
      have HBBX := hid hBx
      clear cc0 cc1 cc2 cc3 cc4 hbx hn2 hBx
      go_wp2_with fail
      refine (HNX.out _ HBBX.out).mono ?_
      rintro e w6 ⟨rfl, hb6⟩
      have hs6 := hb6.size
      generalize nextD c i = N at *
      generalize nextE c i = X at *
      obtain ⟨n0, n1⟩ := N
      clear e0 e1 e2 e3 e4
      have hc6 := (hb6.block _ (by omega)).trans ((HBX.out.block _ hlt).trans HC.out)
      have hd6 := (hb6.block _ (by omega)).trans ((HBX.out.block _ (show w.heap.size + 1 < wm.heap.size by omega)).trans HDD.out)
      have hm6 := (hb6.block _ (by omega)).trans ((HBX.out.block _ (show w2.heap.size < wm.heap.size by omega)).trans HM.out)
      have hq6 := (hb6.block _ (by omega)).trans ((HBX.out.block _ (show w2.heap.size + 1 < wm.heap.size by omega)).trans HM2.out)
      have hn6 := (hb6.block _ hwx).trans HN2.out
      have hbb6 := HBBX.out.trans (hb6.mono (by omega))
      have hr6 := HRM.out.below (HBX.out.trans (hb6.mono (by omega))) (Nat.le_refl _)
      have hr7 := HRM2.out.below (HBX.out.trans (hb6.mono (by omega))) (Nat.le_refl _)
      simp only [dval] at *
      have HC6 := hid hc6
      have HD6 := hid hd6
      have HM6 := hid hm6
      have HQ6 := hid hq6
      have HN6 := hid hn6
      have HBB6 := hid hbb6
      have HR6 := hid hr6
      have HR7 := hid hr7
      clear hc6 hd6 hm6 hq6 hn6 hbb6 hr6 hr7 hb6
      go_upto_region 17 with fail
      obtain ⟨w7, hw7⟩ : ∃ w7 : World, w7 = w6.alloc (.cells #[.int .i64 n0, .int .i64 n1] 27) := ⟨_, rfl⟩
      rw [← hw7]
      have hs7 : w7.heap.size = w6.heap.size + 1 := by rw [hw7]; simp
      have hb7 : Below w6.heap.size w6 w7 := by rw [hw7]; exact (Below.refl _ w6).alloc (Nat.le_refl _) _
      have hx7 : w7.heap[w6.heap.size]? = some (.cells #[.int .i64 n0, .int .i64 n1] 27 (0, 0)) := by rw [hw7]; exact heap_alloc_new w6 _
      have x := (hb7.block (w.heap.size) (by omega)).trans HC6.out
      have x0 : w7.cell? ⟨w.heap.size, 0, none⟩ = some (.int .i64 c.c0) := (cell_of_row w7 _ 0 _ _ _ x).trans rfl
      have x1 : w7.cell? ⟨w.heap.size, 1, none⟩ = some (.int .i64 c.c1) := (cell_of_row w7 _ 1 _ _ _ x).trans rfl
      have x2 : w7.cell? ⟨w.heap.size, 2, none⟩ = some (.int .i64 c.c2) := (cell_of_row w7 _ 2 _ _ _ x).trans rfl
      have x3 : w7.cell? ⟨w.heap.size, 3, none⟩ = some (.int .i64 c.c3) := (cell_of_row w7 _ 3 _ _ _ x).trans rfl
      have x4 : w7.cell? ⟨w.heap.size, 4, none⟩ = some (.slice A c.cloud.length k0) := (cell_of_row w7 _ 4 _ _ _ x).trans rfl
      have y := (hb7.block (w.heap.size + 1) (by omega)).trans HD6.out
      have y0 : w7.cell? ⟨w.heap.size + 1, 0, none⟩ = some (.int .i64 d0) := (cell_of_row w7 _ 0 _ _ _ y).trans rfl
      have y1 : w7.cell? ⟨w.heap.size + 1, 1, none⟩ = some (.int .i64 d1) := (cell_of_row w7 _ 1 _ _ _ y).trans rfl
      have m := (hb7.block (w2.heap.size) (by omega)).trans HM6.out
      have m0 : w7.cell? ⟨w2.heap.size, 0, none⟩ = some (.int .i64 M.c0) := (cell_of_row w7 _ 0 _ _ _ m).trans rfl
      have m1 : w7.cell? ⟨w2.heap.size, 1, none⟩ = some (.int .i64 M.c1) := (cell_of_row w7 _ 1 _ _ _ m).trans rfl
      have m2 : w7.cell? ⟨w2.heap.size, 2, none⟩ = some (.int .i64 M.c2) := (cell_of_row w7 _ 2 _ _ _ m).trans rfl
      have m3 : w7.cell? ⟨w2.heap.size, 3, none⟩ = some (.int .i64 M.c3) := (cell_of_row w7 _ 3 _ _ _ m).trans rfl
      have m4 : w7.cell? ⟨w2.heap.size, 4, none⟩ = some (.slice AM M.cloud.length km) := (cell_of_row w7 _ 4 _ _ _ m).trans rfl
      have q := (hb7.block (w2.heap.size + 1) (by omega)).trans HQ6.out
      have q0 : w7.cell? ⟨w2.heap.size + 1, 0, none⟩ = some (.int .i64 M.c0) := (cell_of_row w7 _ 0 _ _ _ q).trans rfl
      have q1 : w7.cell? ⟨w2.heap.size + 1, 1, none⟩ = some (.int .i64 M.c1) := (cell_of_row w7 _ 1 _ _ _ q).trans rfl
      have q2 : w7.cell? ⟨w2.heap.size + 1, 2, none⟩ = some (.int .i64 M.c2) := (cell_of_row w7 _ 2 _ _ _ q).trans rfl
      have q3 : w7.cell? ⟨w2.heap.size + 1, 3, none⟩ = some (.int .i64 M.c3) := (cell_of_row w7 _ 3 _ _ _ q).trans rfl
      have q4 : w7.cell? ⟨w2.heap.size + 1, 4, none⟩ = some (.slice A2 M.cloud.length k2) := (cell_of_row w7 _ 4 _ _ _ q).trans rfl
      have nb := (hb7.block (wm.heap.size) (by omega)).trans HN6.out
      have nb0 : w7.cell? ⟨wm.heap.size, 0, none⟩ = some (.int .i64 n0) := (cell_of_row w7 _ 0 _ _ _ nb).trans rfl
      have nb1 : w7.cell? ⟨wm.heap.size, 1, none⟩ = some (.int .i64 n1) := (cell_of_row w7 _ 1 _ _ _ nb).trans rfl
      have o := hx7
      have o0 : w7.cell? ⟨w6.heap.size, 0, none⟩ = some (.int .i64 n0) := (cell_of_row w7 _ 0 _ _ _ o).trans rfl
      have o1 : w7.cell? ⟨w6.heap.size, 1, none⟩ = some (.int .i64 n1) := (cell_of_row w7 _ 1 _ _ _ o).trans rfl
      have l1 : w.heap.size < w7.heap.size := by omega
      have l2 : w.heap.size + 1 < w7.heap.size := by omega
      have l3 : w2.heap.size < w7.heap.size := by omega
      have l4 : w2.heap.size + 1 < w7.heap.size := by omega
      have l5 : wm.heap.size < w7.heap.size := by omega
      have l6 : w6.heap.size < w7.heap.size := by omega
      have hbb7 := HBB6.out.trans (hb7.mono (by omega))
      have hra := (HR6.out.below hb7 (by omega)).more (show wm.heap.size ≤ w7.heap.size by omega)
      have hrb := (HR7.out.below hb7 (by omega)).more (show wm.heap.size ≤ w7.heap.size by omega)
      have HSM := hid (fun w8 (hb : Below w7.heap.size w7 w8) => same_ints M.c0 M.c1 M.c2 M.c3 M.c0 M.c1 M.c2 M.c3 M.cloud M.cloud AM A2 km k2 w8 ((hra.below hb (Nat.le_refl _)).more hb.size) ((hrb.below hb (Nat.le_refl _)).more hb.size) HML.out HML.out)
      have hsm : sameB ⟨M.c0, M.c1, M.c2, M.c3, M.cloud⟩ ⟨M.c0, M.c1, M.c2, M.c3, M.cloud⟩ = true := (sameB_iff _ _).2 rfl
      have HBB7 := hid hbb7
      have g1 := guard_dot
      have g2 := eql_dot
      rw [hsm] at HSM
      clear hs7 x y m q nb o hb7 hx7 hw7 hbb7 hra hrb hsm HC6 HD6 HM6 HQ6 HN6 HBB6 HR6 HR7 HCK HNX HRN HC HDD HM HM2 HRM HRM2 HBC HBX HN2 HBBX
      refine region_ext (by kernel_rfl) (by kernel_rfl) (fun hext => ?_)
      repeat (any_goals ((with_reducible refine wpQuiet_step (fun K hK => ?_)); go_simp; first | (with_reducible refine hK _ ?_; clear hK K) | ((with_reducible apply Exists.intro); (with_reducible refine ⟨fun _ => ?_, hK _ ?_⟩); (first | (go_at_call 24; exact ext_call _ (by simp) (HCH.out _ (HBB7.out.trans ((Ext.below _).mono (by omega))))) | (go_at_call 25; exact ext_call _ (by simp) (HHS.out _ (HBB7.out.trans ((Ext.below _).mono (by omega))))) | (go_at_call 26; exact ext_call _ (by simp) (HRH.out _ (HBB7.out.trans ((Ext.below _).mono (by omega))))) | (go_at_call 27; exact ext_call _ (by simp) (HSM.out _ (Ext.below _)))); clear hK K) | ((with_reducible refine (if_neg ?_).mpr (hK _ ?_)); (decide); clear hK K) | (split <;> (with_reducible refine hK _ ?_; clear hK K))))
      all_goals ((with_reducible refine wpQuiet_nil ?_); clear hext; intro w1 hx1; have hb1 := ext_below hx1; clear hx1)
      go_wp2
      go_ret
      exact ⟨rfl, HBB7.out.trans (hb1.mono (by omega))⟩
end Go.Proofs.Ytogegnikpjcpdaa
/- table.context. -/
namespace Go.Proofs.Ytogegnikpjcpdaa
set_option linter.unusedVariables false
open Go.ChangeShapes Go.WideShapes Go.ChangeAt Go.RowKit

theorem Row.takeN {w : World} {B b : Nat} {xs : List Value} (h : Row w B (some ⟨b, 0, none⟩) xs) (k : Nat) : Row w B (some ⟨b, 0, none⟩) (xs.take k) := by
  rcases h with h | ⟨b', off, h1, h2, h3⟩
  · exact .inl (by rw [h]; simp)
  · refine .inr ⟨b', off, h1, h2, fun j u hu => h3 j u ?_⟩
    rw [List.getElem?_take] at hu
    split at hu
    · exact hu
    · cases hu
theorem Row.dropN {w : World} {B b : Nat} {xs : List Value} (h : Row w B (some ⟨b, 0, none⟩) xs) (k : Nat) : Row w B (some ⟨b, k, none⟩) (xs.drop k) := by
  rcases h with h | ⟨b', off, h1, h2, h3⟩
  · exact .inl (by rw [h]; simp)
  · injection h1 with h1
    injection h1 with e1 e2
    subst e1 e2
    refine .inr ⟨b, k, rfl, h2, fun j u hu => ?_⟩
    rw [List.getElem?_drop] at hu
    have := h3 (k + j) u hu
    rwa [Nat.zero_add] at this
theorem make_n (l : List (Int × Int)) (n k : Nat) (hn : n = l.length) (A : Option Addr) (w : World) (hr : Row w w.heap.size A (dcells l)) (hl : l.length ≤ 9223372036854775807) :
    Calls Try.prog 16 #[.slice A n k] w (CtxErr (makeC l) (makeE l) w) := by
  subst hn
  exact make_any l A k w hr hl

set_option maxHeartbeats 4000000 in
set_option maxRecDepth 100000 in
theorem context_tab (l : List (Int × Int)) (A : Option Addr) (c B0 : Nat) (w : World) (hown : w.ownsRow B0 27 2 (.slice A l.length c) l.length (dcells l)) (hpos : 0 < l.length) (hl : l.length ≤ 8796093022208) :
    Calls Try.prog 80 #[.slice A l.length c] w (CtxErr (ctxX l) (ctxE l) w) := by
  obtain ⟨g, rfl, hBg, hgs, hc1, hc2⟩ := own_addrS hown hpos
  have hrow := Row.of_ownS hown
  obtain ⟨N, hN⟩ : ∃ N, N = min l.length 400 := ⟨_, rfl⟩
  have hNl : N ≤ l.length := by omega
  have hN4 : N ≤ 400 := by omega
  have htd : l.take 400 = l.take N ∧ l.drop 400 = l.drop N := by
    by_cases h : l.length ≤ 400
    · rw [List.take_of_length_le h, List.drop_eq_nil_of_le h, List.take_of_length_le (by omega), List.drop_eq_nil_of_le (by omega)]; exact ⟨rfl, rfl⟩
    · rw [show N = 400 by omega]; exact ⟨rfl, rfl⟩
  have hmin : min (l.length : Int) 400 = (N : Int) := by omega
  obtain ⟨adr, hadr, hif1, hif2⟩ : ∃ adr : Addr, (N < l.length → adr = ⟨g, N * 2, none⟩) ∧ (if c = N then some (⟨g, 0, none⟩ : Addr) else some ⟨g, N * 2, none⟩) = some adr ∧ (if c = N then (⟨g, 0, none⟩ : Addr) else ⟨g, N * 2, none⟩) = adr := by
    by_cases hck : c = N
    · exact ⟨⟨g, 0, none⟩, fun h => absurd h (by omega), by rw [if_pos hck], by rw [if_pos hck]⟩
    · exact ⟨⟨g, N * 2, none⟩, fun _ => rfl, by rw [if_neg hck], by rw [if_neg hck]⟩
  have hrt : Row w w.heap.size (some ⟨g, 0, none⟩) (dcells (l.take N)) := by rw [← dcells_take]; exact hrow.takeN _
  have hrd : Row w w.heap.size (some adr) (dcells (l.drop N)) := by
    by_cases h : N < l.length
    · rw [hadr h, ← dcells_drop]; exact hrow.dropN _
    · rw [List.drop_eq_nil_of_le (by omega)]; exact Row.nil
  have HM1 := hid (fun w1 k (hb : Below w.heap.size w w1) => make_n (l.take N) N k (by rw [List.length_take]; omega) (some ⟨g, 0, none⟩) w1 (hrt.step hb) (by rw [List.length_take]; omega))
  have HM2 := hid (fun w1 k (hb : Below w.heap.size w w1) => make_n (l.drop N) (l.length - N) k (by rw [List.length_drop]) (some adr) w1 (hrd.step hb) (by rw [List.length_drop]; omega))
  have HX := hid (show ctxX l = joinX (makeC (l.take N)) (makeC (l.drop N)) by unfold ctxX; rw [htd.1, htd.2])
  have HE := hid (show ctxE l = joinE (makeC (l.take N)) (makeC (l.drop N)) by unfold ctxE; rw [htd.1, htd.2])
  have hl1 := makeC_len (l.take N)
  have hl2 := makeC_len (l.drop N)
  clear hown hrow hrt hrd htd hadr
  obtain ⟨P, hP⟩ : ∃ P, P = makeC (l.take N) := ⟨_, rfl⟩
  obtain ⟨Q, hQ⟩ : ∃ Q, Q = makeC (l.drop N) := ⟨_, rfl⟩
  rw [← hP] at HM1 HX HE hl1
  rw [← hQ] at HM2 HX HE hl2
  obtain ⟨I, hI⟩ : ∃ I, I = makeE (l.take N) := ⟨_, rfl⟩
  obtain ⟨K, hK⟩ : ∃ K, K = makeE (l.drop N) := ⟨_, rfl⟩
  rw [← hI] at HM1
  rw [← hK] at HM2
  clear hP hQ hI hK hN
  have z0 : (0 : Int) ≤ (N : Int) := by omega
  have z1 : (N : Int) ≤ (c : Int) := by omega
  have z2 : (N : Int) ≤ (l.length : Int) := by omega
  simp only [maxLen] at hc2
  go_enter Try.func80, Try.ntmps80
  go_wp2_with fail
  refine (HM1.out _ _ (by (repeat' (first | (with_reducible exact Below.refl _ _) | (with_reducible assumption) | (with_reducible refine below_drewN ?_ _) | (with_reducible refine Below.drew ?_) | (with_reducible refine Below.alloc ?_ ?_ _) | (with_reducible refine Below.setCell ?_ ?_ _) | (refine Below.trans ?_ (Below.mono (by assumption) ?_)) | go_size)))).mono ?_
  rintro e w1 ⟨A1, k1, rfl, hr1, hb1, hn1⟩
  have HBW := hid (show Below w.heap.size w w1 from (by refine Below.step' ?_ hb1; (repeat' (first | (with_reducible exact Below.refl _ _) | (with_reducible assumption) | (with_reducible refine below_drewN ?_ _) | (with_reducible refine Below.drew ?_) | (with_reducible refine Below.alloc ?_ ?_ _) | (with_reducible refine Below.setCell ?_ ?_ _) | (refine Below.trans ?_ (Below.mono (by assumption) ?_)) | go_size))))
  have HXR := hid (Blk.step (Blk.new w #[.int .i64 0, .int .i64 0, .int .i64 0, .int .i64 0, .slice none 0 0] 25) hb1)
  have HR1 := hid hr1
  clear hb1 hr1 hn1
  simp only [cval]
  go_wp2_with fail
  refine (HM2.out _ _ (HBW.out.alloc HBW.out.size _)).mono ?_
  rintro e w2 ⟨A2, k2, rfl, hr2, hb2, hn2⟩
  have hB2 : Below w1.heap.size w1 w2 := (by refine Below.step' ?_ hb2; (repeat' (first | (with_reducible exact Below.refl _ _) | (with_reducible assumption) | (with_reducible refine below_drewN ?_ _) | (with_reducible refine Below.drew ?_) | (with_reducible refine Below.alloc ?_ ?_ _) | (with_reducible refine Below.setCell ?_ ?_ _) | (refine Below.trans ?_ (Below.mono (by assumption) ?_)) | go_size)))
  have HX5 := hid (Blk.step (Blk.new w1 (cbox P A1 k1) 25) hb2)
  replace HXR := hid (HXR.out.step hB2)
  replace HR1 := hid (HR1.out.step hB2)
  replace HBW := hid (Below.step' HBW.out hB2)
  have HR2 := hid hr2
  clear hb2 hB2 hr2 hn2
  simp only [cval]
  have HJ := hid (fun w3 (hb : Below w2.heap.size w2 w3) => join_any P Q A1 A2 k1 k2 w3 (HR1.out.step hb) (by omega) (HR2.out.step hb) (by omega))
  simp only [cval] at HJ
  obtain ⟨cHX5, fHX5, sHX5, nHX5⟩ := HX5.out.all
  try simp only [cbox] at cHX5
  go_wp2_with fail
  refine (HJ.out _ ((Below.refl _ _).alloc (Nat.le_refl _) _)).mono ?_
  rintro e w3 ⟨A3, k3, rfl, hr3, hb3, hn3⟩
  have hB3 : Below w2.heap.size w2 w3 := (by refine Below.step' ?_ hb3; (repeat' (first | (with_reducible exact Below.refl _ _) | (with_reducible assumption) | (with_reducible refine below_drewN ?_ _) | (with_reducible refine Below.drew ?_) | (with_reducible refine Below.alloc ?_ ?_ _) | (with_reducible refine Below.setCell ?_ ?_ _) | (refine Below.trans ?_ (Below.mono (by assumption) ?_)) | go_size)))
  replace HXR := hid (HXR.out.step hB3)
  have hBX := Below.step' HBW.out hB3
  have hs2 := HBW.out.size
  have hR := HXR.out
  obtain ⟨⟨r0, r1, r2, r3, r4⟩, f0, f1, f2, f3, f4⟩ := hR.five
  obtain ⟨J, hJ⟩ : ∃ J, J = joinX P Q := ⟨_, rfl⟩
  rw [← hJ] at hr3 ⊢
  have HJX := hid hJ
  have hwlt : w.heap.size < (w2.alloc (.cells (cbox Q A2 k2) 25)).heap.size := by simp; omega
  have HR5 := hid (Blk.set5 hR (.int .i64 J.c0) (.int .i64 J.c1) (.int .i64 J.c2) (.int .i64 J.c3) (.slice A3 J.cloud.length k3))
  have HB5 := hid (Below.set5 hBX (Nat.le_refl _) (.int .i64 J.c0) (.int .i64 J.c1) (.int .i64 J.c2) (.int .i64 J.c3) (.slice A3 J.cloud.length k3))
  have HROW := hid (Row.set5 hr3 hn3 hwlt (.int .i64 J.c0) (.int .i64 J.c1) (.int .i64 J.c2) (.int .i64 J.c3) (.slice A3 J.cloud.length k3))
  have HN := hid (fun b off q e => Nat.le_trans (Nat.le_of_lt hwlt) (hn3 b off q e))
  clear cHX5 fHX5 sHX5 nHX5
  clear hb3 hB3 hr3 hn3 hJ hR hBX
  simp only [cval]
  go_wp2
  obtain ⟨⟨q0, q1, q2, q3, q4⟩, -⟩ := HR5.out.five
  exact bodyPost_ret (v := .tuple #[cval J A3 k3, .int .i64 (joinE P Q)]) (by simp [results, Try.results80, go_sem, q0, q1, q2, q3, q4]) rfl ⟨A3, k3, by rw [HX.out, HE.out, HJX.out], by rw [HX.out, ← HJX.out]; exact HROW.out, HB5.out, HN.out⟩
end Go.Proofs.Ytogegnikpjcpdaa
/- slices.Equal at Cell. -/
namespace Go.Proofs.Ytogegnikpjcpdaa
set_option linter.unusedVariables false
open Go.ChangeShapes Go.WideShapes Go.ChangeAt Go.RowKit

theorem under_cel : Try.prog.underlying 62 = some (.struct (Try.prog.fieldsOf 62)) := by kernel_rfl
theorem stood_cel : Try.prog.stoodInHeld 62 = false := by kernel_rfl
theorem guard_cel : Try.prog.eqGuardType Try.prog.depth 62 = false := by kernel_rfl
theorem neq_cel (a b c d e a' b' c' d' e' : Int) (w : World) : (binOp .neq 62 (.agg #[.int .i64 a, .int .i64 b, .int .i64 c, .int .i64 d, .int .i64 e]) (.agg #[.int .i64 a', .int .i64 b', .int .i64 c', .int .i64 d', .int .i64 e'])).run Try.prog w = .ok (.bool (!(a == a' && b == b' && c == c' && d == d' && e == e'))) w := by
  have h1 := under_cel
  have h2 := stood_cel
  have h3 := under_dot
  have h4 := stood_dot
  simp only [run_neq_struct, run_equalIn_agg _ _ _ _ _ h1 h2]
  simp [go_sem]
  by_cases ha : a = a' <;> by_cases hb : b = b' <;> by_cases hc : c = c' <;> by_cases hd : d = d' <;> by_cases he : e = e' <;> simp [ha, hb, hc, hd, he]
theorem eql_cel (a b c d e a' b' c' d' e' : Int) (w : World) : (binOp .eql 62 (.agg #[.int .i64 a, .int .i64 b, .int .i64 c, .int .i64 d, .int .i64 e]) (.agg #[.int .i64 a', .int .i64 b', .int .i64 c', .int .i64 d', .int .i64 e'])).run Try.prog w = .ok (.bool (a == a' && b == b' && c == c' && d == d' && e == e')) w := by
  have h1 := under_cel
  have h2 := stood_cel
  have h3 := under_dot
  have h4 := stood_dot
  simp only [run_eql_struct, run_equalIn_agg _ _ _ _ _ h1 h2]
  simp [go_sem]
  by_cases ha : a = a' <;> by_cases hb : b = b' <;> by_cases hc : c = c' <;> by_cases hd : d = d' <;> by_cases he : e = e' <;> simp [ha, hb, hc, hd, he]
theorem cel_eq (a b c d e a' b' c' d' e' : Int) : (a == a' && b == b' && c == c' && d == d' && e == e') = decide ((⟨(a, b), c, d, e⟩ : Cel) = ⟨(a', b'), c', d', e'⟩) := by
  rw [Bool.eq_iff_iff]
  simp [and_assoc]

set_option maxHeartbeats 400000 in
set_option maxRecDepth 100000 in
theorem equalT_any (l m : List Cel) (A B : Option Addr) (c e : Nat) (w : World) (hr : Row w w.heap.size A (tcells l)) (hs : Row w w.heap.size B (tcells m)) (hl : l.length ≤ 9223372036854775807) (hm : m.length ≤ 9223372036854775807) :
    Calls Try.prog 42 #[.slice A l.length c, .slice B m.length e] w fun e w' => e = .returned (.bool (decide (l = m))) ∧ Below w.heap.size w w' := by
  have HR := hid hr
  have HS := hid hs
  clear hr hs
  by_cases hlen : l.length = m.length
  · have hne : ((l.length : Int) != (m.length : Int)) = false := by simp [hlen]
    have HL := hid hlen
    clear hlen
    go_enter Try.func42, Try.ntmps42
    go_wp2
    go_loopw [13] (fun i wr => (∃ k : Nat, k ≤ l.length ∧ i = .int .i64 k ∧ ∀ j (h : j < l.length) (h' : j < m.length), j < k → l[j] = m[j]) ∧ Below w.heap.size w wr) (fun i _ => l.length - (intOf i).toNat)
    case atStart => exact ⟨⟨0, by omega, rfl, fun j _ _ h => absurd h (by omega)⟩, Below.refl _ _⟩
    case round =>
      obtain ⟨⟨k, hk, rfl, hno⟩, hbw⟩ := hrel
      by_cases hlt : k < l.length
      · have hlt' : k < m.length := by have := HL.out; omega
        obtain ⟨b, off, rfl, hb, h0, h1, h2, h3, h4⟩ := (HR.out.below hbw (Nat.le_refl _)).cel hlt
        obtain ⟨b', off', rfl, hb', h0', h1', h2', h3', h4'⟩ := (HS.out.below hbw (Nat.le_refl _)).cel hlt'
        have HN := hid hno
        have HB := hid hbw
        clear hno hbw
        generalize hd : l[k] = d at *
        generalize hd' : m[k] = d' at *
        obtain ⟨⟨d0, d1⟩, d2, d3, d4⟩ := d
        obtain ⟨⟨f0, f1⟩, f2, f3, f4⟩ := d'
        have HD := hid hd
        have HD' := hid hd'
        clear hd hd'
        simp only at h0 h1 h2 h3 h4 h0' h1' h2' h3' h4'
        have g1 := guard_cel
        have g2 := fun w => neq_cel d0 d1 d2 d3 d4 f0 f1 f2 f3 f4 w
        have ce := cel_eq d0 d1 d2 d3 d4 f0 f1 f2 f3 f4
        rw [ce] at g2
        clear ce
        cases hq : decide ((⟨(d0, d1), d2, d3, d4⟩ : Cel) = ⟨(f0, f1), f2, f3, f4⟩)
        all_goals
          rw [hq] at g2
          have HQ := hid hq
          clear hq
          go_wp2
          refine wp_region_quiet_lit (by kernel_rfl) (by kernel_rfl) ?_
          repeat (any_goals ((with_reducible refine wpQuiet_step (fun K hK => ?_)); go_simp; first | (with_reducible refine hK _ ?_; clear hK K) | ((with_reducible apply Exists.intro); (with_reducible refine ⟨fun _ => ?_, hK _ ?_⟩); (fail); clear hK K) | ((with_reducible refine (if_neg ?_).mpr (hK _ ?_)); (decide); clear hK K) | (split <;> (with_reducible refine hK _ ?_; clear hK K))))
          all_goals ((with_reducible refine wpQuiet_nil ?_); intro _ hw'; obtain ⟨nq, hw''⟩ := hw'; subst hw'')
          go_wp2
        · go_ret
          refine ⟨ret_bool ?_, below_drewN HB.out _⟩
          symm
          rw [decide_eq_false_iff_not]
          rintro rfl
          exact (of_decide_eq_false HQ.out) (HD.out.symm.trans HD'.out)
        · go_roundw
          case rel =>
            refine ⟨⟨k + 1, by omega, by go_num, fun j h h' hj => ?_⟩, below_drewN HB.out _⟩
            by_cases e : j = k
            · subst e; rw [HD.out, HD'.out]; exact of_decide_eq_true HQ.out
            · exact HN.out j h h' (by omega)
          case measure => simp [intOf]; omega
      · go_wp2
        go_ret
        refine ⟨ret_bool ?_, hbw⟩
        have : l = m := List.ext_getElem HL.out fun j h h' => hno j h h' (by omega)
        simp [this]
  · have hne : ((l.length : Int) != (m.length : Int)) = true := by simp; omega
    go_enter Try.func42, Try.ntmps42
    go_wp2
    go_ret
    exact ⟨ret_bool (by symm; simp; rintro rfl; exact hlen rfl), Below.refl _ _⟩
end Go.Proofs.Ytogegnikpjcpdaa
