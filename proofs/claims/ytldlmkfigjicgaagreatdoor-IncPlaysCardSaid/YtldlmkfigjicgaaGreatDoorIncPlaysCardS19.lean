/- Once, ItaP, Bst, ToM, ShelfR, ToN, ToP, ToS -/
import Derived.Test.YtldlmkfigjicgaaGreatDoorIncPlaysCardS18
import Derived.Lib.ItoaNum
import Derived.WalkKit
import Derived.Test.YtldlmkfigjicgaaGreatDoorRows
import Derived.Maps.OwnOps
import Derived.StringKeys
import Derived.Maps.Views
import Derived.Lib.AppendIntMem
import Derived.Shelf.LaysM
import Derived.Shelf.Strconv.Itoa3
import Derived.Ground.NamesProg
import Derived.Ground.SlsfProg
import Derived.Shelf.SlSortCmp.Whole1
import Derived.Shelf.SlSortCmp.NoneTotal
import Derived.Lib.ItoaLen
import Derived.Laws.Concat
/- viewref.once, Values, Keys. -/
namespace Go.Proofs.YtldlmkfigjicgaaGreatDoor
set_option linter.unusedVariables false
open Go.ChangeShapes Go.WideShapes Go.ChangeAt Go.RowKit

theorem own_shortI {w : World} {B n cap g k : Nat} {T : TypeId} {xs : List Value} (h : w.ownsRow B T 1 (.slice (some ⟨g, 0, none⟩) n cap) n xs) (hk : k ≤ n) : w.ownsRow B T 1 (.slice (some ⟨g, 0, none⟩) k cap) k (xs.take k) := by
  refine ⟨by rw [List.length_take, h.1]; omega, ?_⟩
  rcases h.2 with ⟨h1, _⟩ | ⟨g', cap', cur, h1, h2, h3, h4, h5, h6, h7⟩
  · cases h1
  · injection h1 with e1 e2 e3
    injection e1 with e1
    injection e1 with e1
    subst e1 e3
    refine .inr ⟨g, cap, cur, rfl, h2, h3, by omega, h5, h6, ?_⟩
    rw [← h7, List.take_take, Nat.mul_one, Nat.mul_one, Nat.min_eq_left (by omega)]

def cu (s : List Int) (i : Nat) : List Int := Lib.compactUpTo s.toArray i
theorem cu_zero (s : List Int) : cu s 0 = [] := rfl
theorem cu_all (s : List Int) : cu s s.length = Lib.compact s := rfl
theorem cu_succ (s : List Int) (i : Nat) (h : i < s.length) : cu s (i + 1) = cu s i ++ (if i = 0 ∨ s[i] ≠ s[i - 1]'(by omega) then [s[i]] else []) := by
  unfold cu
  rw [Lib.compactUpTo_succ]
  have e1 : s.toArray[i]! = s[i] := by rw [getElem!_pos _ i (by simpa using h)]; simp
  have e2 : s.toArray[i - 1]! = s[i - 1]'(by omega) := by rw [getElem!_pos _ (i - 1) (by simp; omega)]; simp
  unfold Lib.keeps
  rw [e1, e2]
  by_cases q : i = 0 ∨ s[i] ≠ s[i - 1]'(by omega)
  · simp [q]
  · simp [q]
theorem cu_len (s : List Int) : ∀ i, i ≤ s.length → (cu s i).length ≤ i
  | 0, _ => by simp [cu_zero]
  | i + 1, h => by
    rw [cu_succ s i (by omega), List.length_append]
    have := cu_len s i (by omega)
    split <;> simp <;> omega
theorem cu_last (s : List Int) : ∀ i (h : i < s.length), (cu s (i + 1)).getLast? = some s[i]
  | 0, h => by rw [cu_succ s 0 h]; simp [cu_zero]
  | i + 1, h => by
    rw [cu_succ s (i + 1) h]
    by_cases q : s[i + 1] = s[i]
    · rw [if_neg (by simp [q]), List.append_nil, cu_last s i (by omega), q]
    · rw [if_pos (by right; simpa using q)]; simp

/-- Of the first i places those that stay stand in front; from i on all is as it was. -/
structure OInv (s ds : List Int) (i kk : Nat) : Prop where
  len : ds.length = s.length
  eq : kk = (cu s i).length
  low : ds.take kk = cu s i
  high : ∀ j (h : j < s.length) (h' : j < ds.length), i ≤ j → ds[j] = s[j]
theorem OInv.start (s : List Int) : OInv s s 0 0 := ⟨rfl, rfl, rfl, fun _ _ _ _ => rfl⟩
theorem OInv.prev {s ds : List Int} {i kk : Nat} (h : OInv s ds i kk) (hi : i ≤ s.length) (h0 : 0 < i) : ∃ hk : kk - 1 < ds.length, 1 ≤ kk ∧ ds[kk - 1] = s[i - 1]'(by omega) := by
  have hl := cu_last s (i - 1) (by omega)
  rw [show i - 1 + 1 = i by omega, ← h.low, List.getLast?_eq_getElem?] at hl
  have hlen : (ds.take kk).length = kk := by rw [h.low, h.eq]
  rw [hlen] at hl
  have h1 : kk - 1 < (ds.take kk).length := by
    rcases Nat.lt_or_ge (kk - 1) (ds.take kk).length with q | q
    · exact q
    · rw [List.getElem?_eq_none q] at hl; cases hl
  have h2 : kk - 1 < ds.length := by rw [List.length_take] at h1; omega
  refine ⟨h2, by omega, ?_⟩
  rw [List.getElem?_eq_getElem h1] at hl
  injection hl with hl
  rw [← hl, List.getElem_take]
theorem OInv.keep {s ds : List Int} {i kk : Nat} (h : OInv s ds i kk) (hi : i < s.length) (hq : i = 0 ∨ s[i] ≠ s[i - 1]'(by omega)) : OInv s (ds.set kk s[i]) (i + 1) (kk + 1) := by
  have hkk : kk ≤ i := by rw [h.eq]; exact cu_len s i (by omega)
  have hlen := h.len
  refine ⟨by rw [List.length_set]; exact hlen, ?_, ?_, fun j hj hj' hij => ?_⟩
  · rw [cu_succ s i hi, if_pos hq, List.length_append, ← h.eq]; rfl
  · rw [cu_succ s i hi, if_pos hq, List.take_succ_eq_append_getElem (by rw [List.length_set]; omega), List.getElem_set_self]
    congr 1
    rw [List.take_set, List.set_eq_of_length_le (by rw [List.length_take]; omega), h.low]
  · rw [List.getElem_set_ne (by omega)]
    exact h.high j hj (by omega) (by omega)
theorem OInv.skip {s ds : List Int} {i kk : Nat} (h : OInv s ds i kk) (hi : i < s.length) (hq : ¬ (i = 0 ∨ s[i] ≠ s[i - 1]'(by omega))) : OInv s ds (i + 1) kk := by
  have e : cu s (i + 1) = cu s i := by rw [cu_succ s i hi, if_neg hq, List.append_nil]
  exact ⟨h.len, by rw [e]; exact h.eq, by rw [e]; exact h.low, fun j hj hj' hij => h.high j hj hj' (by omega)⟩

theorem own_addrS {w : World} {B n c s : Nat} {T : TypeId} {A : Option Addr} {xs : List Value} (h : w.ownsRow B T s (.slice A n c) n xs) (hn : 0 < n) : ∃ g, A = some ⟨g, 0, none⟩ ∧ B ≤ g ∧ g < w.heap.size ∧ n ≤ c ∧ c ≤ maxLen := by
  rcases h.2 with ⟨_, h0⟩ | ⟨g, cap, cur, h', hb, hg, hnc, hcm, hcs, htake⟩
  · omega
  · injection h' with h1 h2 h3
    subst h1 h3
    have hlt : g < w.heap.size := by
      rcases Nat.lt_or_ge g w.heap.size with h | h
      · exact h
      · rw [Array.getElem?_eq_none h] at hg; cases hg
    exact ⟨g, rfl, hb, hlt, hnc, hcm⟩
theorem own_drewS {w : World} {B n s : Nat} {T : TypeId} {v : Value} {xs : List Value} (h : w.ownsRow B T s v n xs) (q : Nat) : (w.drewN q).ownsRow B T s v n xs := h
theorem el_int : Elem Tryz.prog 30 3 1 8 := by
  obtain ⟨i0, h0, h1, h2, h3⟩ := info_parts info_int
  exact ⟨Tryz.underlying30, ⟨i0, _, h0, h1, h2, h3, rfl⟩, by decide⟩

set_option maxHeartbeats 4000000 in
set_option maxRecDepth 100000 in
theorem once_any (l : List Int) (A : Option Addr) (c : Nat) (w : World) (hr : Row w w.heap.size A (icells l)) (hl : l.length ≤ 4398046511104) :
    Calls Tryz.prog 81 #[.slice A l.length c] w (IntsPost (onceI l) w) := by
  have HR := hid hr
  clear hr
  have HF := hid (show onceI l = Lib.compact (isort l) from rfl)
  have hsl := isort_len l
  obtain ⟨s, hs⟩ : ∃ s, s = isort l := ⟨_, rfl⟩
  rw [← hs] at HF hsl
  obtain ⟨V, hV⟩ : ∃ V, V = onceI l := ⟨_, rfl⟩
  rw [← hV] at HF ⊢
  have HSD := hid hs
  clear hV hs
  go_enter Tryz.func81, Tryz.ntmps81
  go_wp2_with (at_builtin; refine wpList_append_row el_int rfl _ _ (by rfl) w.heap.size (.slice none 0 0) 0 [] (by rfl) (World.ownsRow_nil _ _ _ _) A l.length c _ (icells l) (by rfl) (by simp) HR.out (icells_one _) (by simp only [maxLen]; omega) (by omega) (Nat.le_refl _) ?_; intro v1 w1 hown1 hg1 _; rw [Nat.zero_add, List.nil_append] at hown1; obtain ⟨A1, c1, rfl⟩ := own_formS hown1)
  have HB1 := hid (below_grown_nil (Below.refl w.heap.size w) hg1)
  have HS := hid (sortI_own l w1 hown1 (by omega))
  have HOL := hid (fun g e => (hown1.lt g e).1)
  have hs1 := hg1.size
  clear hown1 hg1
  go_wp2_with fail
  refine HS.out.mono ?_
  rintro e w2 ⟨rfl, hown2, hg2⟩
  have HB2 := hid (HB1.out.grown hg2 hs1 (fun g e => HOL.out g e))
  rw [← HSD.out] at hown2
  have HOWN2 := hid hown2
  clear hown2 hg2 HOL HS HB1
  go_wp2
  go_loopw [4, 5] (fun s4 s5 wr => ∃ (i kk : Nat) (ds : List Int), i ≤ l.length ∧ s5 = .int .i64 i ∧ s4 = .int .i64 kk ∧ OInv s ds i kk ∧ wr.ownsRow w.heap.size 3 1 (.slice A1 l.length c1) l.length (icells ds) ∧ Below w.heap.size w wr) (fun _ s5 _ => l.length - (intOf s5).toNat)
  case atStart => exact ⟨0, 0, s, by omega, rfl, rfl, OInv.start s, HOWN2.out, HB2.out⟩
  case round =>
    obtain ⟨i, kk, ds, hi, rfl, rfl, hinv, hown, hbw⟩ := hrel
    have HI := hid hinv
    have HOWN := hid hown
    have HBW := hid hbw
    have hkki : kk ≤ i := by rw [hinv.eq]; exact cu_len s i (by omega)
    have hdl := hinv.len
    by_cases hlt : i < l.length
    · obtain ⟨g, hA, hBg, hgs, hcl1, hcl2⟩ := own_addrS hown (by omega)
      subst hA
      have hi' : i < s.length := by omega
      have ei : wr.cell? ⟨g, i, none⟩ = some (.int .i64 s[i]) := by
        rw [hown.cellAt i (by omega), ← hinv.high i hi' (by omega) (Nat.le_refl _)]
        simp [show i < ds.length by omega]
      have fk := hown.frozenAt kk
      have ek : ∃ u, wr.cell? ⟨g, kk, none⟩ = some u := ⟨_, (hown.cellAt kk (by omega)).trans (List.getElem?_eq_getElem (show kk < (icells ds).length by simp; omega))⟩
      obtain ⟨uk, ek⟩ := ek
      have hstore := hown.stored kk (.int .i64 s[i])
      have hset : (icells ds).set kk (.int .i64 s[i]) = icells (ds.set kk s[i]) := by simp [icells, List.map_set]
      rw [hset] at hstore
      have HST := hid hstore
      clear hset hstore
      by_cases h0 : i = 0
      · have t0 : ((i : Int) == 0) = true := by simp [h0]
        have HK := hid (hinv.keep hi' (.inl h0))
        clear h0 hinv hown hbw
        generalize s[i] = x at *
        go_wp2
        refine wp_region_quiet_lit (by kernel_rfl) (by kernel_rfl) ?_
        repeat (any_goals ((with_reducible refine wpQuiet_step (fun K hK => ?_)); go_simp; first | (with_reducible refine hK _ ?_; clear hK K) | ((with_reducible apply Exists.intro); (with_reducible refine ⟨fun _ => ?_, hK _ ?_⟩); (fail); clear hK K) | ((with_reducible refine (if_neg ?_).mpr (hK _ ?_)); (decide); clear hK K) | (split <;> (with_reducible refine hK _ ?_; clear hK K))))
        all_goals ((with_reducible refine wpQuiet_nil ?_); intro _ hw'; obtain ⟨nq, hw''⟩ := hw'; subst hw'')
        go_wp2
        go_roundw
        case rel => exact ⟨i + 1, kk + 1, _, by omega, by go_num, by go_num, HK.out, HST.out.1, (below_drewN HBW.out nq).setCell hBg _⟩
        case measure => simp [intOf]; omega
      · have t0 : ((i : Int) == 0) = false := by simp only [beq_eq_false_iff_ne, ne_eq]; omega
        obtain ⟨hkp, hk1, hpe⟩ := hinv.prev (by omega) (by omega)
        have ep : wr.cell? ⟨g, kk - 1, none⟩ = some (.int .i64 (s[i - 1]'(by omega))) := by
          rw [hown.cellAt (kk - 1) (by omega), ← hpe]
          simp [hkp]
        have z1 : IntKind.i64.wrap ((kk : Int) - 1) = (kk : Int) - 1 := IntWalk.i64_in _ (by omega)
        have z2 : (1 : Int) ≤ (kk : Int) := by omega
        have z3 : (kk : Int) - 1 < (l.length : Int) := by omega
        have z4 : ((kk : Int) - 1).toNat = kk - 1 := by omega
        by_cases hq : s[i] = s[i - 1]'(by omega)
        · have HK := hid (hinv.skip hi' (by simp [h0, hq]))
          have t1 : (s[i] != s[i - 1]'(by omega)) = false := by simp [hq]
          clear hinv hown hbw hpe hq
          generalize s[i - 1]'(by omega) = y at *
          generalize s[i] = x at *
          go_wp2
          refine wp_region_quiet_lit (by kernel_rfl) (by kernel_rfl) ?_
          repeat (any_goals ((with_reducible refine wpQuiet_step (fun K hK => ?_)); go_simp; first | (with_reducible refine hK _ ?_; clear hK K) | ((with_reducible apply Exists.intro); (with_reducible refine ⟨fun _ => ?_, hK _ ?_⟩); (fail); clear hK K) | ((with_reducible refine (if_neg ?_).mpr (hK _ ?_)); (decide); clear hK K) | (split <;> (with_reducible refine hK _ ?_; clear hK K))))
          all_goals ((with_reducible refine wpQuiet_nil ?_); intro _ hw'; obtain ⟨nq, hw''⟩ := hw'; subst hw'')
          go_wp2
          go_roundw
          case rel => exact ⟨i + 1, kk, _, by omega, by go_num, rfl, HK.out, own_drewS HOWN.out nq, below_drewN HBW.out nq⟩
          case measure => simp [intOf]; omega
        · have HK := hid (hinv.keep hi' (.inr hq))
          have t1 : (s[i] != s[i - 1]'(by omega)) = true := by simpa using hq
          clear hinv hown hbw hpe hq
          generalize s[i - 1]'(by omega) = y at *
          generalize s[i] = x at *
          go_wp2
          refine wp_region_quiet_lit (by kernel_rfl) (by kernel_rfl) ?_
          repeat (any_goals ((with_reducible refine wpQuiet_step (fun K hK => ?_)); go_simp; first | (with_reducible refine hK _ ?_; clear hK K) | ((with_reducible apply Exists.intro); (with_reducible refine ⟨fun _ => ?_, hK _ ?_⟩); (fail); clear hK K) | ((with_reducible refine (if_neg ?_).mpr (hK _ ?_)); (decide); clear hK K) | (split <;> (with_reducible refine hK _ ?_; clear hK K))))
          all_goals ((with_reducible refine wpQuiet_nil ?_); intro _ hw'; obtain ⟨nq, hw''⟩ := hw'; subst hw'')
          go_wp2
          go_roundw
          case rel => exact ⟨i + 1, kk + 1, _, by omega, by go_num, by go_num, HK.out, HST.out.1, (below_drewN HBW.out nq).setCell hBg _⟩
          case measure => simp [intOf]; omega
    · have e : i = s.length := by omega
      have hfin : icells (ds.take kk) = icells V := by rw [hinv.low, e, cu_all, HF.out]
      have hlenV : kk = V.length := by
        have h := congrArg List.length hfin
        rw [List.length_map, List.length_map, List.length_take] at h
        omega
      have HFI := hid hfin
      have HLV := hid hlenV
      clear hfin hlenV e
      rcases hown.2 with ⟨hv, hn⟩ | ⟨g, cap, cur, hv, -, -, hnc, hcm, -, -⟩
      · injection hv with hv1 hv2 hv3
        subst hv1 hv3
        have hk0 : kk = 0 := by omega
        subst hk0
        clear hown hbw hinv
        go_wp2
        go_ret
        exact ⟨_, rfl, by rw [← HLV.out, ← HFI.out]; simpa using World.ownsRow_nil _ _ _ _, HBW.out⟩
      · injection hv with hv1 hv2 hv3
        subst hv1 hv3
        have hsh := own_shortI hown (k := kk) (by omega)
        rw [← List.map_take, show List.map (Value.int .i64) (List.take kk ds) = icells V from HFI.out] at hsh
        have HSH := hid hsh
        simp only [maxLen] at hcm
        clear hown hbw hinv hsh
        go_wp2
        go_ret
        exact ⟨_, rfl, by rw [← HLV.out]; exact HSH.out, HBW.out⟩

end Go.Proofs.YtldlmkfigjicgaaGreatDoor
/- Numerals and names of rows: different ones read differently. No program in sight. -/
namespace Go.Proofs.YtldlmkfigjicgaaGreatDoor
open Go Go.Lib
set_option linter.unusedVariables false
set_option linter.unusedSimpArgs false

/-- What a numeral says. -/
def decVal (l : List UInt8) : Nat := l.foldl (fun n b => n * 10 + (b.toNat - 48)) 0
theorem decVal_snoc (l : List UInt8) (b : UInt8) : decVal (l ++ [b]) = decVal l * 10 + (b.toNat - 48) := by simp [decVal]
theorem b8_digit (n : Nat) (h : n < 10) : (UInt8.ofNat (48 + n)).toNat = 48 + n := by rw [UInt8.toNat_ofNat']; exact Nat.mod_eq_of_lt (by omega)
theorem decDigits_small {u : Nat} (h : u < 10) : decDigits u = [UInt8.ofNat (48 + u)] := decDigits_one h
theorem decDigits_big {u : Nat} (h : ¬ u < 10) : decDigits u = decDigits (u / 10) ++ [UInt8.ofNat (48 + u % 10)] := by rw [decDigits, dif_neg h]
theorem decVal_digits (u : Nat) : decVal (decDigits u) = u := by
  induction u using Nat.strongRecOn with
  | ind u ih =>
    by_cases h : u < 10
    · rw [decDigits_small h]; simp only [decVal, List.foldl_cons, List.foldl_nil]; rw [b8_digit u h]; omega
    · rw [decDigits_big h, decVal_snoc, ih (u / 10) (by omega), b8_digit _ (Nat.mod_lt _ (by omega))]; omega
/-- All bytes of a numeral are digits. -/
theorem decDigits_all (u : Nat) : ∀ b ∈ decDigits u, 48 ≤ b.toNat ∧ b.toNat ≤ 57 := by
  induction u using Nat.strongRecOn with
  | ind u ih =>
    by_cases h : u < 10
    · rw [decDigits_small h]; intro b hb; rw [List.mem_singleton.1 hb, b8_digit u h]; omega
    · rw [decDigits_big h]
      intro b hb
      rcases List.mem_append.1 hb with hb | hb
      · exact ih (u / 10) (by omega) b hb
      · rw [List.mem_singleton.1 hb, b8_digit _ (Nat.mod_lt _ (by omega))]; omega
theorem decDigits_inj {u v : Nat} (h : decDigits u = decDigits v) : u = v := by rw [← decVal_digits u, h, decVal_digits]
theorem itoa_inj {n m : Int} (h : itoa n = itoa m) : n = m := by
  unfold itoa at h
  have hn : ∀ u l, decDigits u ≠ 45 :: l := fun u l e => by
    have := decDigits_all u 45 (by rw [e]; exact List.mem_cons_self ..)
    exact absurd this.1 (by decide)
  split at h <;> split at h
  · injection h with _ h; have := decDigits_inj h; omega
  · exact absurd h.symm (hn _ _)
  · exact absurd h (hn _ _)
  · have := decDigits_inj h; omega
theorem itoa_no_comma (n : Int) : ∀ b ∈ itoa n, b ≠ 44 := by
  intro b hb e
  subst e
  unfold itoa at hb
  split at hb
  · rcases List.mem_cons.1 hb with hb | hb
    · exact absurd hb (by decide)
    · exact absurd (decDigits_all _ _ hb).1 (by decide)
  · exact absurd (decDigits_all _ _ hb).1 (by decide)
/-- The name of a row: its numbers, each with a comma behind it. -/
def nameB : List Int → List UInt8
  | [] => []
  | n :: l => itoa n ++ 44 :: nameB l
theorem nameB_snoc (l : List Int) (n : Int) : nameB (l ++ [n]) = nameB l ++ (itoa n ++ [44]) := by
  induction l with
  | nil => rfl
  | cons x l ih => simp only [List.cons_append, nameB, ih, List.append_assoc, List.cons_append]
theorem comma_split {a b c d : List UInt8} (ha : ∀ x ∈ a, x ≠ 44) (hc : ∀ x ∈ c, x ≠ 44) (h : a ++ 44 :: b = c ++ 44 :: d) : a = c ∧ b = d := by
  induction a generalizing c with
  | nil =>
    cases c with
    | nil => injection h with _ h; exact ⟨rfl, h⟩
    | cons x c => injection h with e _; exact absurd e.symm (hc x (List.mem_cons_self ..))
  | cons y a ih =>
    cases c with
    | nil => injection h with e _; exact absurd e (ha y (List.mem_cons_self ..))
    | cons x c =>
      injection h with e h
      obtain ⟨e1, e2⟩ := ih (fun z hz => ha z (List.mem_cons_of_mem _ hz)) (fun z hz => hc z (List.mem_cons_of_mem _ hz)) h
      exact ⟨by rw [e, e1], e2⟩
theorem nameB_inj : ∀ {a b : List Int}, nameB a = nameB b → a = b
  | [], [], _ => rfl
  | [], y :: b, h => by simp only [nameB] at h; exact absurd (congrArg List.length h) (by simp)
  | x :: a, [], h => by simp only [nameB] at h; exact absurd (congrArg List.length h) (by simp)
  | x :: a, y :: b, h => by
    simp only [nameB] at h
    obtain ⟨e1, e2⟩ := comma_split (itoa_no_comma x) (itoa_no_comma y) h
    rw [itoa_inj e1, nameB_inj e2]
end Go.Proofs.YtldlmkfigjicgaaGreatDoor
/- Lists of bytes as strings. No program in sight. -/
namespace Go.Proofs.YtldlmkfigjicgaaGreatDoor
abbrev bstr (l : List UInt8) : ByteArray := ⟨l.toArray⟩
theorem bstr_app (a b : List UInt8) : bstr a ++ bstr b = bstr (a ++ b) := by
  apply ByteArray.ext
  rw [ByteArray.data_append]
  simp
theorem bstr_size (a : List UInt8) : (bstr a).size = a.length := rfl
end Go.Proofs.YtldlmkfigjicgaaGreatDoor
/- Maps of sums, by rows' names. -/
namespace Go.Proofs.YtldlmkfigjicgaaGreatDoor
set_option linter.unusedVariables false
set_option linter.unusedSimpArgs false
open Go.ChangeShapes Go.WideShapes Go.ChangeAt Go.RowKit

/-- What a row's name is as a key. -/
abbrev kN (r : List Int) : Lit := .string (nameB r)
theorem kN_ne {a b : List Int} (h : a ≠ b) : kN a ≠ kN b := fun e => h (nameB_inj (by injection e))
theorem isKeyN (r : List Int) : WideAt.IsKeyLit (kN r) := trivial
theorem str_law : Maps.Keyed Tryz.prog 9 := Maps.string_keyed Tryz.underlying9
theorem keyOf_N {r : List Int} (h : (nameB r).length ≤ maxLen) : keyOf Tryz.prog 9 (.string (bstr (nameB r))) = some (kN r) := WideMaps.keyOf_string_mk Tryz.underlying9 h
theorem wf_i64' (k : Int) (h : wrp k = k) : (Lit.int .i64 k).wf = true := by
  have := wrp_in k
  rw [h] at this
  simp [Lit.wf, IntKind.min, IntKind.max, IntKind.signed, IntKind.bits]; omega
theorem zero_int (w : World) : (zeroValue 3).run Tryz.prog w = .ok (.int .i64 0) w := by kernel_rfl
/-- A map of sums: what it holds of each row. -/
def SMap (F : List Int → Int) (D : DataW Unit) : Prop := Maps.IsMap D ∧ ∀ r, D.atKey (kN r) (.lit (.int .i64 0)) = .lit (.int .i64 (F r))
theorem SMap.nil : SMap (fun _ => 0) (.map []) := ⟨Maps.isMap_empty, fun r => rfl⟩
theorem SMap.put {F G : List Int → Int} {D : DataW Unit} (h : SMap F D) (r : List Int) (v : Int) (hG : ∀ q, G q = if q = r then v else F q) : SMap G (D.put (kN r) (.lit (.int .i64 v))) := by
  refine ⟨h.1.put _ _, fun q => ?_⟩
  by_cases e : q = r
  · subst e
    rw [hG, if_pos rfl]
    exact Maps.atKey_put_same h.1 (isKeyN _) _ _
  · rw [hG, if_neg e, Maps.atKey_put_other (kN_ne e)]
    exact h.2 q
theorem SMap.at {F : List Int → Int} {D : DataW Unit} (h : SMap F D) {r : List Int} {c : Int} (hc : D.atKey (kN r) (.lit (.int .i64 0)) = .lit (.int .i64 c)) : c = F r := by
  rw [h.2 r] at hc
  injection hc with hc
  injection hc with _ hc
  exact hc.symm
end Go.Proofs.YtldlmkfigjicgaaGreatDoor
/-
  DERIVED: THE SHELF's CONTRACTS AT THIS DUMP, IN PLAIN WORDS (tools/lay-plain.mjs out of 'YtldlmkfigjicgaaGreatDoorShelfR.lean', which tools/lay-shelf.mjs wrote): THE SAME DECLARATIONS UNDER THE SAME NAMES: 'import', 'namespace', 'open', 'def', 'theorem' AND NOTHING ELSE: no command of the shelf's: FOR A HAND-IN. Each laying: the table of numbers ('.._ren') and one theorem, a field a fact of the dump's own or the kernel's comparison; each contract: ONE APPLICATION.
-/
namespace Go.Proofs
open Go.Shelf
def Tryz.itoaL_ren : Go.Shelf.Ren := ⟨fun | 171 => 110 | 243 => 137 | 246 => 154 | 283 => 168 | 284 => 169 | 285 => 170 | 286 => 171 | 129 => 129 | 317 => 176 | 318 => 177 | 319 => 178 | 320 => 179 | 337 => 181 | 338 => 182 | n => n, fun | 3 => 3 | 9 => 9 | 2 => 2 | 4 => 4 | 171 => 194 | 0 => 0 | 53 => 165 | 37 => 196 | 5 => 5 | 173 => 197 | 212 => 203 | 51 => 163 | 20 => 20 | 213 => 204 | 46 => 140 | 232 => 206 | 233 => 207 | n => n, fun | 17 => 0 | 18 => 1 | 19 => 2 | n => n⟩
theorem Tryz.itoaL : Go.Proofs.LaysM.n171 Tryz.prog Tryz.itoaL_ren := {
  mixed := by kernel_rfl
  f129 := Tryz.func129.trans (congrArg some (by kernel_rfl))
  f171 := Tryz.func110.trans (congrArg some (by kernel_rfl))
  f243 := Tryz.func137.trans (congrArg some (by kernel_rfl))
  f246 := Tryz.func154.trans (congrArg some (by kernel_rfl))
  f283 := Tryz.func168.trans (congrArg some (by kernel_rfl))
  f284 := Tryz.func169.trans (congrArg some (by kernel_rfl))
  f285 := Tryz.func170.trans (congrArg some (by kernel_rfl))
  f286 := Tryz.func171.trans (congrArg some (by kernel_rfl))
  f317 := Tryz.func176.trans (congrArg some (by kernel_rfl))
  f318 := Tryz.func177.trans (congrArg some (by kernel_rfl))
  f319 := Tryz.func178.trans (congrArg some (by kernel_rfl))
  f320 := Tryz.func179.trans (congrArg some (by kernel_rfl))
  f337 := Tryz.func181.trans (congrArg some (by kernel_rfl))
  f338 := Tryz.func182.trans (congrArg some (by kernel_rfl))
  t0 := Tryz.underlying0
  a0 := Tryz.isAgg0
  z0 := Tryz.sizeOf0
  v0 := Tryz.zeroValue0
  t2 := Tryz.underlying2
  a2 := Tryz.isAgg2
  z2 := Tryz.sizeOf2
  v2 := Tryz.zeroValue2
  t3 := Tryz.underlying3
  a3 := Tryz.isAgg3
  z3 := Tryz.sizeOf3
  v3 := Tryz.zeroValue3
  t4 := Tryz.underlying4
  a4 := Tryz.isAgg4
  z4 := Tryz.sizeOf4
  v4 := Tryz.zeroValue4
  t5 := Tryz.underlying5
  a5 := Tryz.isAgg5
  z5 := Tryz.sizeOf5
  v5 := Tryz.zeroValue5
  t9 := Tryz.underlying9
  a9 := Tryz.isAgg9
  z9 := Tryz.sizeOf9
  v9 := Tryz.zeroValue9
  t20 := Tryz.underlying20
  a20 := Tryz.isAgg20
  z20 := Tryz.sizeOf20
  v20 := Tryz.zeroValue20
  t37 := Tryz.underlying196
  a37 := Tryz.isAgg196
  z37 := Tryz.sizeOf196
  v37 := Tryz.zeroValue196
  t46 := Tryz.underlying140
  a46 := Tryz.isAgg140
  z46 := Tryz.sizeOf140
  v46 := Tryz.zeroValue140
  t51 := Tryz.underlying163
  a51 := Tryz.isAgg163
  z51 := Tryz.sizeOf163
  v51 := Tryz.zeroValue163
  t53 := Tryz.underlying165
  a53 := Tryz.isAgg165
  z53 := Tryz.sizeOf165
  v53 := Tryz.zeroValue165
  t171 := Tryz.underlying194
  a171 := Tryz.isAgg194
  z171 := Tryz.sizeOf194
  v171 := Tryz.zeroValue194
  t173 := Tryz.underlying197
  a173 := Tryz.isAgg197
  z173 := Tryz.sizeOf197
  v173 := Tryz.zeroValue197
  t212 := Tryz.underlying203
  a212 := Tryz.isAgg203
  z212 := Tryz.sizeOf203
  v212 := Tryz.zeroValue203
  t213 := Tryz.underlying204
  a213 := Tryz.isAgg204
  z213 := Tryz.sizeOf204
  t232 := Tryz.underlying206
  a232 := Tryz.isAgg206
  z232 := Tryz.sizeOf206
  v232 := Tryz.zeroValue206
  t233 := Tryz.underlying207
  a233 := Tryz.isAgg207
  z233 := Tryz.sizeOf207
  v233 := Tryz.zeroValue207
  g17 := by kernel_rfl
  g18 := by kernel_rfl
  g19 := by kernel_rfl
  i0 := by kernel_rfl
  i2 := by kernel_rfl
  i3 := by kernel_rfl
  i4 := by kernel_rfl
  i5 := by kernel_rfl
  i9 := by kernel_rfl
  i20 := by kernel_rfl
  i37 := by kernel_rfl
  i46 := by kernel_rfl
  i51 := by kernel_rfl
  i53 := by kernel_rfl
  i171 := by kernel_rfl
  i173 := by kernel_rfl
  i212 := by kernel_rfl
  i232 := by kernel_rfl
  i233 := by kernel_rfl
  m17 := by kernel_rfl
  m18 := by kernel_rfl
  m19 := by kernel_rfl }
def Tryz.sortRows_ren : Go.Shelf.Ren := ⟨fun | 6 => 91 | 15 => 102 | 14 => 111 | 28 => 128 | 29 => 129 | 20 => 138 | 21 => 139 | 22 => 140 | 23 => 141 | 24 => 142 | 25 => 143 | 26 => 144 | 27 => 145 | 46 => 155 | 47 => 149 | 48 => 150 | 49 => 156 | 50 => 157 | 57 => 172 | n => n, fun | 22 => 130 | 24 => 30 | 25 => 40 | 3 => 3 | 39 => 140 | 0 => 0 | 53 => 163 | 55 => 165 | 4 => 4 | 46 => 156 | 45 => 155 | 50 => 160 | 5 => 5 | 9 => 9 | 66 => 177 | 70 => 181 | 76 => 191 | 77 => 192 | n => n, fun | n => n⟩
theorem Tryz.sortRows : Go.Proofs.SlLaysF.n6 Tryz.prog Tryz.sortRows_ren := {
  mixed := by kernel_rfl
  f6 := ⟨Tryz.f91.name, by decide, Tryz.func91.trans (congrArg some (by kernel_rfl))⟩
  f14 := ⟨Tryz.f111.name, by decide, Tryz.func111.trans (congrArg some (by kernel_rfl))⟩
  f15 := Tryz.func102.trans (congrArg some (by kernel_rfl))
  f20 := ⟨Tryz.f138.name, by decide, Tryz.func138.trans (congrArg some (by kernel_rfl))⟩
  f21 := ⟨Tryz.f139.name, by decide, Tryz.func139.trans (congrArg some (by kernel_rfl))⟩
  f22 := ⟨Tryz.f140.name, by decide, Tryz.func140.trans (congrArg some (by kernel_rfl))⟩
  f23 := ⟨Tryz.f141.name, by decide, Tryz.func141.trans (congrArg some (by kernel_rfl))⟩
  f24 := ⟨Tryz.f142.name, by decide, Tryz.func142.trans (congrArg some (by kernel_rfl))⟩
  f25 := ⟨Tryz.f143.name, by decide, Tryz.func143.trans (congrArg some (by kernel_rfl))⟩
  f26 := ⟨Tryz.f144.name, by decide, Tryz.func144.trans (congrArg some (by kernel_rfl))⟩
  f27 := ⟨Tryz.f145.name, by decide, Tryz.func145.trans (congrArg some (by kernel_rfl))⟩
  f28 := Tryz.func128.trans (congrArg some (by kernel_rfl))
  f29 := Tryz.func129.trans (congrArg some (by kernel_rfl))
  f46 := ⟨Tryz.f155.name, by decide, Tryz.func155.trans (congrArg some (by kernel_rfl))⟩
  f47 := Tryz.func149.trans (congrArg some (by kernel_rfl))
  f48 := Tryz.func150.trans (congrArg some (by kernel_rfl))
  f49 := ⟨Tryz.f156.name, by decide, Tryz.func156.trans (congrArg some (by kernel_rfl))⟩
  f50 := ⟨Tryz.f157.name, by decide, Tryz.func157.trans (congrArg some (by kernel_rfl))⟩
  f57 := ⟨Tryz.f172.name, by decide, Tryz.func172.trans (congrArg some (by kernel_rfl))⟩
  t0 := Tryz.underlying0
  a0 := Tryz.isAgg0
  z0 := Tryz.sizeOf0
  v0 := Tryz.zeroValue0
  t3 := Tryz.underlying3
  a3 := Tryz.isAgg3
  z3 := Tryz.sizeOf3
  v3 := Tryz.zeroValue3
  t4 := Tryz.underlying4
  a4 := Tryz.isAgg4
  z4 := Tryz.sizeOf4
  v4 := Tryz.zeroValue4
  t5 := Tryz.underlying5
  a5 := Tryz.isAgg5
  z5 := Tryz.sizeOf5
  v5 := Tryz.zeroValue5
  t9 := Tryz.underlying9
  a9 := Tryz.isAgg9
  z9 := Tryz.sizeOf9
  v9 := Tryz.zeroValue9
  t22 := Tryz.underlying130
  a22 := Tryz.isAgg130
  z22 := Tryz.sizeOf130
  v22 := Tryz.zeroValue130
  a24 := Tryz.isAgg30
  z24 := Tryz.sizeOf30
  t25 := Tryz.underlying40
  a25 := Tryz.isAgg40
  z25 := Tryz.sizeOf40
  v25 := Tryz.zeroValue40
  t39 := Tryz.underlying140
  a39 := Tryz.isAgg140
  z39 := Tryz.sizeOf140
  v39 := Tryz.zeroValue140
  t45 := Tryz.underlying155
  a45 := Tryz.isAgg155
  z45 := Tryz.sizeOf155
  v45 := Tryz.zeroValue155
  t46 := Tryz.underlying156
  a46 := Tryz.isAgg156
  z46 := Tryz.sizeOf156
  v46 := Tryz.zeroValue156
  t50 := Tryz.underlying160
  a50 := Tryz.isAgg160
  z50 := Tryz.sizeOf160
  v50 := Tryz.zeroValue160
  t53 := Tryz.underlying163
  a53 := Tryz.isAgg163
  z53 := Tryz.sizeOf163
  v53 := Tryz.zeroValue163
  t55 := Tryz.underlying165
  a55 := Tryz.isAgg165
  z55 := Tryz.sizeOf165
  v55 := Tryz.zeroValue165
  t66 := Tryz.underlying177
  a66 := Tryz.isAgg177
  z66 := Tryz.sizeOf177
  v66 := Tryz.zeroValue177
  t70 := Tryz.underlying181
  a70 := Tryz.isAgg181
  z70 := Tryz.sizeOf181
  v70 := Tryz.zeroValue181
  t76 := Tryz.underlying191
  a76 := Tryz.isAgg191
  z76 := Tryz.sizeOf191
  v76 := Tryz.zeroValue191
  t77 := Tryz.underlying192
  a77 := Tryz.isAgg192
  z77 := Tryz.sizeOf192
  v77 := Tryz.zeroValue192 }
def Tryz.sortRows0_ren : Go.Shelf.Ren := ⟨fun | 6 => 91 | 15 => 102 | 14 => 111 | 28 => 128 | 29 => 129 | 20 => 138 | 21 => 139 | 22 => 140 | 23 => 141 | 24 => 142 | 25 => 143 | 26 => 144 | 27 => 145 | 46 => 155 | 47 => 149 | 48 => 150 | 49 => 156 | 50 => 157 | 57 => 172 | n => n, fun | 22 => 130 | 24 => 30 | 25 => 40 | 3 => 3 | 39 => 140 | 0 => 0 | 53 => 163 | 55 => 165 | 4 => 4 | 46 => 156 | 45 => 155 | 50 => 160 | 5 => 5 | 9 => 9 | 66 => 177 | 70 => 181 | 76 => 191 | 77 => 192 | n => n, fun | n => n⟩
theorem Tryz.sortRows0 : Go.Proofs.SlLaysF0.n6 Tryz.prog Tryz.sortRows0_ren := {
  mixed := by kernel_rfl
  f6 := ⟨Tryz.f91.name, by decide, Tryz.func91.trans (congrArg some (by kernel_rfl))⟩
  f14 := ⟨Tryz.f111.name, by decide, Tryz.func111.trans (congrArg some (by kernel_rfl))⟩
  f15 := Tryz.func102.trans (congrArg some (by kernel_rfl))
  f20 := ⟨Tryz.f138.name, by decide, Tryz.func138.trans (congrArg some (by kernel_rfl))⟩
  f21 := ⟨Tryz.f139.name, by decide, Tryz.func139.trans (congrArg some (by kernel_rfl))⟩
  f22 := ⟨Tryz.f140.name, by decide, Tryz.func140.trans (congrArg some (by kernel_rfl))⟩
  f23 := ⟨Tryz.f141.name, by decide, Tryz.func141.trans (congrArg some (by kernel_rfl))⟩
  f24 := ⟨Tryz.f142.name, by decide, Tryz.func142.trans (congrArg some (by kernel_rfl))⟩
  f25 := ⟨Tryz.f143.name, by decide, Tryz.func143.trans (congrArg some (by kernel_rfl))⟩
  f26 := ⟨Tryz.f144.name, by decide, Tryz.func144.trans (congrArg some (by kernel_rfl))⟩
  f27 := ⟨Tryz.f145.name, by decide, Tryz.func145.trans (congrArg some (by kernel_rfl))⟩
  f28 := Tryz.func128.trans (congrArg some (by kernel_rfl))
  f29 := Tryz.func129.trans (congrArg some (by kernel_rfl))
  f46 := ⟨Tryz.f155.name, by decide, Tryz.func155.trans (congrArg some (by kernel_rfl))⟩
  f47 := Tryz.func149.trans (congrArg some (by kernel_rfl))
  f48 := Tryz.func150.trans (congrArg some (by kernel_rfl))
  f49 := ⟨Tryz.f156.name, by decide, Tryz.func156.trans (congrArg some (by kernel_rfl))⟩
  f50 := ⟨Tryz.f157.name, by decide, Tryz.func157.trans (congrArg some (by kernel_rfl))⟩
  f57 := ⟨Tryz.f172.name, by decide, Tryz.func172.trans (congrArg some (by kernel_rfl))⟩
  t0 := Tryz.underlying0
  a0 := Tryz.isAgg0
  z0 := Tryz.sizeOf0
  v0 := Tryz.zeroValue0
  t3 := Tryz.underlying3
  a3 := Tryz.isAgg3
  z3 := Tryz.sizeOf3
  v3 := Tryz.zeroValue3
  t4 := Tryz.underlying4
  a4 := Tryz.isAgg4
  z4 := Tryz.sizeOf4
  v4 := Tryz.zeroValue4
  t5 := Tryz.underlying5
  a5 := Tryz.isAgg5
  z5 := Tryz.sizeOf5
  v5 := Tryz.zeroValue5
  t9 := Tryz.underlying9
  a9 := Tryz.isAgg9
  z9 := Tryz.sizeOf9
  v9 := Tryz.zeroValue9
  t22 := Tryz.underlying130
  a22 := Tryz.isAgg130
  z22 := Tryz.sizeOf130
  v22 := Tryz.zeroValue130
  t25 := Tryz.underlying40
  a25 := Tryz.isAgg40
  z25 := Tryz.sizeOf40
  v25 := Tryz.zeroValue40
  t39 := Tryz.underlying140
  a39 := Tryz.isAgg140
  z39 := Tryz.sizeOf140
  v39 := Tryz.zeroValue140
  t45 := Tryz.underlying155
  a45 := Tryz.isAgg155
  z45 := Tryz.sizeOf155
  v45 := Tryz.zeroValue155
  t46 := Tryz.underlying156
  a46 := Tryz.isAgg156
  z46 := Tryz.sizeOf156
  v46 := Tryz.zeroValue156
  t50 := Tryz.underlying160
  a50 := Tryz.isAgg160
  z50 := Tryz.sizeOf160
  v50 := Tryz.zeroValue160
  t53 := Tryz.underlying163
  a53 := Tryz.isAgg163
  z53 := Tryz.sizeOf163
  v53 := Tryz.zeroValue163
  t55 := Tryz.underlying165
  a55 := Tryz.isAgg165
  z55 := Tryz.sizeOf165
  v55 := Tryz.zeroValue165
  t66 := Tryz.underlying177
  a66 := Tryz.isAgg177
  z66 := Tryz.sizeOf177
  v66 := Tryz.zeroValue177
  t70 := Tryz.underlying181
  a70 := Tryz.isAgg181
  z70 := Tryz.sizeOf181
  v70 := Tryz.zeroValue181
  t76 := Tryz.underlying191
  a76 := Tryz.isAgg191
  z76 := Tryz.sizeOf191
  v76 := Tryz.zeroValue191
  t77 := Tryz.underlying192
  a77 := Tryz.isAgg192
  z77 := Tryz.sizeOf192
  v77 := Tryz.zeroValue192 }
end Go.Proofs
/- viewref.name: a row's name. -/
namespace Go.Proofs.YtldlmkfigjicgaaGreatDoor
set_option linter.unusedVariables false
set_option linter.unusedSimpArgs false
open Go.ChangeShapes Go.WideShapes Go.ChangeAt Go.RowKit

/-- The library's table of powers. -/
abbrev Pow (w : World) : Prop := Lib.TabIs Tryz.prog w "internal/strconv.uint64pow10" .u64 Lib.pow10Tab
theorem Pow.step {w w' : World} (h : Pow w) (hb : Below w.heap.size w w') : Pow w' := Lib.tabBelow_of_tabIs h w' hb
/-- Numbers as they may be. -/
def In64 (l : List Int) : Prop := ∀ n ∈ l, -9223372036854775808 ≤ n ∧ n ≤ 9223372036854775807
theorem itoa_le {n : Int} (h : -9223372036854775808 ≤ n ∧ n ≤ 9223372036854775807) : (Lib.itoa n).length ≤ 21 := Lib.itoa_length_le n h.1 h.2
theorem nameB_len {l : List Int} (h : In64 l) : (nameB l).length ≤ 22 * l.length := by
  induction l with
  | nil => simp [nameB]
  | cons n l ih =>
    have h1 := itoa_le (h n (by simp))
    have h2 := ih fun m hm => h m (by simp [hm])
    simp only [nameB, List.length_append, List.length_cons]
    omega
theorem itoa_any (n : Int) (h : -9223372036854775808 ≤ n ∧ n ≤ 9223372036854775807) (w : World) (ht : Pow w) : Calls Tryz.prog 110 #[.int .i64 n] w fun e w' => e = .returned (.string (bstr (Lib.itoa n))) ∧ Below w.heap.size w w' :=
  (Any.strconv_Itoa Tryz.itoaL n h.1 h.2 w ht).mono fun e w' ⟨he, k, os, hw⟩ => ⟨he, by rw [hw]; exact Lib.below_grow w.heap.size w (Nat.le_refl _) k os⟩
set_option maxHeartbeats 1000000 in
set_option maxRecDepth 100000 in
theorem name_any (l : List Int) (A : Option Addr) (c : Nat) (w : World) (hr : Row w w.heap.size A (icells' l)) (hl : l.length ≤ 1048576) (hin : In64 l) (ht : Pow w) :
    Calls Tryz.prog 90 #[.slice A l.length c] w fun e w' => e = .returned (.string (bstr (nameB l))) ∧ Below w.heap.size w w' := by
  have HR := hid hr
  have HT := hid ht
  have hsz := bstr_size
  have hap := bstr_app
  clear hr ht
  go_enter Tryz.func90, Tryz.ntmps90
  go_wp2_with fail
  -- STOP-a
  go_loopw [3, 4] (fun s3 s4 wr => ∃ i : Nat, i ≤ l.length ∧ s4 = .int .i64 i ∧ s3 = .string (bstr (nameB (l.take i))) ∧ Hid (Below w.heap.size w wr)) (fun _ s4 _ => l.length - (intOf s4).toNat)
  case atStart => exact ⟨0, by omega, rfl, rfl, hid (Below.refl _ _)⟩
  case round =>
    obtain ⟨i, hi, rfl, rfl, HB⟩ := hrel
    by_cases hlt : i < l.length
    · have t1 : ((i : Int) < (l.length : Int)) = True := eq_true (by omega)
      have HR1 := hid (HR.out.step HB.out)
      have HN := hid (show nameB (l.take (i + 1)) = nameB (l.take i) ++ (Lib.itoa l[i] ++ [44]) by rw [List.take_succ_eq_append_getElem hlt, nameB_snoc])
      have hnl : (nameB (l.take i)).length ≤ 22 * 1048576 := by
        have h1 := nameB_len (l := l.take i) (fun n hn => hin n (List.mem_of_mem_take hn))
        have h2 : (l.take i).length ≤ 1048576 := by rw [List.length_take]; omega
        omega
      obtain ⟨b, off, rfl, hb, c0⟩ := HR1.out.int' hlt
      have h64 := hin _ (List.getElem_mem hlt)
      have hil := itoa_le h64
      generalize l[i] = x at *
      obtain ⟨S, hS⟩ : ∃ S, S = nameB (l.take i) := ⟨_, rfl⟩
      rw [← hS] at HN hnl ⊢
      clear hS
      have HC := hid (itoa_any x h64 wr (Pow.step HT.out HB.out))
      obtain ⟨I, hI⟩ : ∃ I, I = Lib.itoa x := ⟨_, rfl⟩
      rw [← hI] at HC HN hil
      clear hI
      go_wp2_with fail
      -- STOP-b
      refine HC.out.mono ?_
      rintro e w2 ⟨rfl, hb2⟩
      have HB2 := hid (Below.step' HB.out hb2)
      have e44 : (⟨#[44]⟩ : ByteArray) = bstr [44] := rfl
      have hz1 : (bstr I).size = I.length := rfl
      clear hb2 HC
      go_wp2_with fail
      -- STOP-c
      go_roundw
      case rel => exact ⟨i + 1, by omega, by go_num, by rw [HN.out], HB2⟩
      case measure => simp [intOf]; omega
    · have t1 : ((i : Int) < (l.length : Int)) = False := eq_false (by omega)
      have hil : l.take i = l := List.take_of_length_le (by omega)
      rw [hil]
      go_wp2_with fail
      -- STOP-d
      go_ret
      exact ⟨rfl, HB.out⟩
end Go.Proofs.YtldlmkfigjicgaaGreatDoor
/- viewref.Total: its plain law: rising rows, each with its weight, are the set of the list. No program in sight. -/
namespace Go.Proofs.YtldlmkfigjicgaaGreatDoor
set_option linter.unusedVariables false
set_option linter.unusedSimpArgs false

/-- What has been told of the first k of rows that don't fall. -/
def TotI (F : List Int → Int) (R : List (List Int)) (k : Nat) (S : List It) : Prop :=
  Strict S ∧ (∀ r, wt S r = if r ∈ R.take k then F r else 0) ∧ ∀ x ∈ S, x.1 ∈ R.take k
def RisingR (R : List (List Int)) : Prop := ∀ i j, (hi : i < R.length) → (hj : j < R.length) → i < j → cmpL R[i] R[j] ≤ 0
theorem totI_nil (F : List Int → Int) (R : List (List Int)) : TotI F R 0 [] := ⟨trivial, fun r => by simp [wt, tot]; rfl, fun x hx => by simp at hx⟩
theorem take_mem_succ {R : List (List Int)} {k : Nat} (hk : k < R.length) (r : List Int) : r ∈ R.take (k + 1) ↔ r ∈ R.take k ∨ r = R[k] := by
  rw [List.take_succ_eq_append_getElem hk, List.mem_append, List.mem_singleton]
theorem totI_twice {F : List Int → Int} {R : List (List Int)} {k : Nat} {S : List It} (h : TotI F R k S) (hk : k < R.length) (h0 : 0 < k) (he : cmpL (R[k - 1]'(by omega)) R[k] = 0) : TotI F R (k + 1) S := by
  have hin : R[k] ∈ R.take k := by
    rw [← cmpL_eq _ _ he]
    exact List.mem_iff_getElem.2 ⟨k - 1, by rw [List.length_take]; omega, by rw [List.getElem_take]⟩
  have hm : ∀ r, r ∈ R.take (k + 1) ↔ r ∈ R.take k := fun r => (take_mem_succ hk r).trans ⟨fun q => q.elim id fun e => e ▸ hin, .inl⟩
  exact ⟨h.1, fun r => by rw [h.2.1 r]; simp only [hm r], fun x hx => (hm _).2 (h.2.2 x hx)⟩
theorem totI_none {F : List Int → Int} {R : List (List Int)} {k : Nat} {S : List It} (h : TotI F R k S) (hk : k < R.length) (he : F R[k] = 0) : TotI F R (k + 1) S := by
  refine ⟨h.1, fun r => ?_, fun x hx => (take_mem_succ hk _).2 (.inl (h.2.2 x hx))⟩
  rw [h.2.1 r]
  by_cases e : r = R[k]
  · subst e; rw [he]; simp
  · have : (r ∈ R.take (k + 1)) ↔ (r ∈ R.take k) := (take_mem_succ hk r).trans ⟨fun q => q.elim id fun e' => absurd e' e, .inl⟩
    simp only [this]
theorem totI_more {F : List Int → Int} {R : List (List Int)} {k : Nat} {S : List It} (hR : RisingR R) (h : TotI F R k S) (hk : k < R.length) (hne : ∀ _ : 0 < k, cmpL (R[k - 1]'(by omega)) R[k] ≠ 0) (h0 : F R[k] ≠ 0) (hw : wrp (F R[k]) = F R[k]) : TotI F R (k + 1) (S ++ [(R[k], F R[k])]) := by
  have hlt : ∀ j, (hj : j < k) → cmpL (R[j]'(by omega)) R[k] < 0 := fun j hj => by
    have h1 := hR (k - 1) k (by omega) hk (by omega)
    have h2 := hne (by omega)
    by_cases e : j = k - 1
    · subst e; omega
    · exact cmpL_le_lt (hR j (k - 1) (by omega) (by omega) (by omega)) (by omega)
  have hlm : ∀ r ∈ R.take k, cmpL r R[k] < 0 := fun r hr => by
    obtain ⟨j, hj, e⟩ := List.mem_iff_getElem.1 hr
    rw [List.length_take] at hj
    rw [List.getElem_take] at e
    rw [← e]
    exact hlt j (by omega)
  have hni : R[k] ∉ R.take k := fun q => by have := hlm _ q; rw [cmpL_self] at this; omega
  have hw0 : wrp (tot R[k] S) = 0 := by have := h.2.1 R[k]; rw [if_neg hni] at this; exact this
  refine ⟨strict_app h.1 ⟨h0, hw, fun y hy => by simp at hy, trivial⟩ fun x hx y hy => ?_, fun r => ?_, fun x hx => ?_⟩
  · rw [List.mem_singleton.1 hy]; exact hlm _ (h.2.2 x hx)
  · by_cases e : r = R[k]
    · subst e
      rw [if_pos ((take_mem_succ hk _).2 (.inr rfl))]
      show wrp (tot R[k] (S ++ [(R[k], F R[k])])) = _
      rw [tot_app, ← wrp_add, hw0]
      simp [tot, hw]
    · have hm : (r ∈ R.take (k + 1)) ↔ (r ∈ R.take k) := (take_mem_succ hk r).trans ⟨fun q => q.elim id fun e' => absurd e' e, .inl⟩
      simp only [hm]
      rw [← h.2.1 r]
      show wrp (tot r (S ++ [(R[k], F R[k])])) = wrp (tot r S)
      rw [tot_app]
      simp [tot, Ne.symm e]
  · rcases List.mem_append.1 hx with q | q
    · exact (take_mem_succ hk _).2 (.inl (h.2.2 x q))
    · rw [List.mem_singleton.1 q]; exact (take_mem_succ hk _).2 (.inr rfl)
theorem totI_end {L : List It} {R : List (List Int)} {S : List It} (h : TotI (wt L) R R.length S) (hm : ∀ x ∈ L, x.1 ∈ R) : S = sumL L := by
  refine sumL_eq h.1 fun r => ?_
  rw [h.2.1 r, List.take_length]
  by_cases e : r ∈ R
  · rw [if_pos e]
  · rw [if_neg e]
    unfold wt
    rw [tot_none fun x hx q => by have h1 := hm x hx; rw [q] at h1; exact e h1]
    rfl
/-- Adding one by one. -/
theorem wt_take_succ (r : List Int) (L : List It) {k : Nat} (hk : k < L.length) : wt (L.take (k + 1)) r = if L[k].1 = r then wrp (wt (L.take k) r + L[k].2) else wt (L.take k) r := by
  unfold wt
  rw [tot_take_succ r L hk]
  split
  · rw [wrp_add]
  · rw [Int.add_zero]
end Go.Proofs.YtldlmkfigjicgaaGreatDoor
/- slices.SortFunc at rows of numbers, by viewref.Order. -/
namespace Go.Proofs.YtldlmkfigjicgaaGreatDoor
set_option linter.unusedVariables false
set_option linter.unusedSimpArgs false
open Go.ChangeShapes Go.WideShapes Go.ChangeAt Go.RowKit Go.Shelf Go.Lib Go.Sort

/-- A row alone. -/
abbrev IR.one (x : IR) : List Value := [.slice x.A x.row.length x.k]
theorem IR.one_len (x : IR) : x.one.length = 1 := rfl
def QI.val1 {Q : IR → Prop} (x : QI Q) : Value := .slice x.1.A x.1.row.length x.1.k
theorem oneCell_val1 {Q : IR → Prop} : OneCell (QI.val1 (Q := Q)) := fun _ => rfl
theorem own_holds1 {α : Type} [Inhabited α] (f : α → Value) {w : World} {g : Nat} {l : List α} {cur : Array Value} {T : TypeId} (hg : w.heap[g]? = some (.cells cur T (0, 0))) (hc : cur.toList.take l.length = l.map f) : Holds f w g 0 l.toArray := by
  intro j hj
  have hj1 : j < l.length := by simpa using hj
  have hj' : j < (l.map f).length := by simpa using hj1
  have e := take_get hc hj'
  rw [getElem!_pos _ j hj]
  constructor
  · rw [Nat.zero_add, cell_of_row w g j cur T (0, 0) hg, e, List.getElem?_eq_getElem hj']; simp
  · simp [World.frozen?, hg]
theorem sortWorld_grown {α : Type} [Inhabited α] (enc : α → Value) (w : World) (g off n : Nat) (l : Array α) (os : Array Obj) : w.grownBy (sortWorld enc w g off n l os) (some g) := by
  refine ⟨rfl, rfl, rfl, ?_, ?_⟩
  · unfold sortWorld grow putRow mapBlock Sort.ahead
    simp
  · intro j hj hne
    have hne' : g ≠ j := fun e => hne (by rw [e])
    unfold sortWorld grow putRow mapBlock Sort.ahead
    simp [Array.getElem?_append, hj, Array.getElem_modify, hne']
theorem own_sorted1 {α : Type} [Inhabited α] (f : α → Value) {w : World} {B cap g n : Nat} {l' : List α} {cur : Array Value} {T : TypeId} {os : Array Obj} (hb : B ≤ g) (hg : w.heap[g]? = some (.cells cur T (0, 0))) (hcap : l'.length ≤ cap) (hm : cap ≤ maxLen) (hs : cur.size = cap) :
    (sortWorld f w g 0 n l'.toArray os).ownsRow B T 1 (.slice (some ⟨g, 0, none⟩) l'.length cap) l'.length (l'.map f) := by
  have hlt : g < w.heap.size := by
    rcases Nat.lt_or_ge g w.heap.size with h | h
    · exact h
    · rw [Array.getElem?_eq_none h] at hg; cases hg
  have hnew : (sortWorld f w g 0 n l'.toArray os).heap[g]? = some (.cells (putCells f 0 l'.toArray cur) T (0, 0)) := by
    unfold sortWorld grow putRow mapBlock Sort.ahead
    simp only [Array.getElem?_append, Array.size_modify, hlt, if_true, Array.getElem?_modify, hg, Option.map_some]
    rfl
  refine ⟨by simp, .inr ⟨g, cap, _, rfl, hb, hnew, hcap, hm, by simp [putCells, hs], ?_⟩⟩
  apply List.ext_getElem?
  intro j
  rw [Nat.mul_one]
  by_cases hj : j < l'.length
  · have hjc : j < cur.size := by rw [hs]; omega
    rw [List.getElem?_take_of_lt hj]
    simp only [putCells, Array.toList_mapIdx, List.getElem?_mapIdx]
    have : cur.toList[j]? = some cur.toList[j] := List.getElem?_eq_getElem (by simpa using hjc)
    rw [this]
    simp only [Option.map_some, Nat.zero_le, Nat.zero_add, List.size_toArray, hj, and_self, if_true, Nat.sub_zero]
    rw [getElem!_pos _ j (by simpa using hj)]
    simp [hj]
  · have h1 : (l'.map f)[j]? = none := List.getElem?_eq_none (by simpa using hj)
    rw [h1]
    apply List.getElem?_eq_none
    rw [List.length_take]
    omega
theorem enters_Order : ∀ args w, (callFunc 17 args).run Tryz.prog w = .ok (.enter 17 args) w := enters_of Tryz.func17 (by kernel_rfl) rfl
theorem cmpLays_Order (w : World) (B blk off size : Nat) (hB : B ≤ w.heap.size) (hblk : B ≤ blk) : CmpLays1 Tryz.prog 17 #[] (QI.val1 (Q := RowQ w B)) itCf blk off size w := fun m os dk hs x y => by
  have hg := sortWorld_grown (QI.val1 (Q := RowQ w B)) w blk off m dk os
  have hr : ∀ z : QI (RowQ w B), Row (sortWorld (QI.val1 (Q := RowQ w B)) w blk off m dk os) (sortWorld (QI.val1 (Q := RowQ w B)) w blk off m dk os).heap.size z.1.A (icells' z.1.row) := fun z =>
    (z.2.1.grown hB hg (fun k e => by injection e with e; omega)).more (Nat.le_trans hB hg.size)
  refine (Rorder_any x.1.row y.1.row x.1.A y.1.A x.1.k y.1.k _ (hr x) (hr y) x.2.2 y.2.2).mono ?_
  rintro e w' ⟨rfl, q, rfl⟩
  exact ⟨rfl, q, #[], by rw [grow_empty]⟩
theorem vals_one {Q : IR → Prop} (l : List (QI Q)) : l.map (QI.val1 (Q := Q)) = (l.map Subtype.val).flatMap IR.one := by
  induction l with
  | nil => rfl
  | cons x l ih => simp only [List.map_cons, List.flatMap_cons, ih]; rfl
/-- slices.SortFunc at rows, over a row that the call owns. -/
theorem sortRows_own {B : Nat} {v : Value} (L : List IR) (w : World) (hown : w.ownsRow B 30 1 v L.length (L.flatMap IR.one)) (hr : ∀ x ∈ L, RowQ w B x) (hB : B ≤ w.heap.size) (hl : L.length ≤ 140737488355328) :
    Calls Tryz.prog 91 #[v, .func (.func 17) #[] #[]] w fun e w' => e = .returned (.tuple #[]) ∧ ∃ L' : List IR, L'.Perm L ∧ RisingR (L'.map IR.row) ∧ w'.ownsRow B 30 1 v L.length (L'.flatMap IR.one) ∧ w.grownBy w' v.ownBlock := by
  rcases hown.2 with ⟨rfl, h0⟩ | ⟨g, cap, cur, rfl, hbg, hg, hcap, hm, hs, ht⟩
  · have hl0 : L = [] := List.eq_nil_of_length_eq_zero h0
    subst hl0
    refine (AnyF.slices_SortFunc_none Tryz.sortRows0 none 0 _ w).mono fun e w' ⟨he, hw⟩ => ?_
    subst hw
    exact ⟨he, [], List.Perm.refl _, fun i j hi => by simp at hi, hown, ⟨rfl, rfl, rfl, Nat.le_refl _, fun _ _ _ => rfl⟩⟩
  · have hlt : g < w.heap.size := by
      rcases Nat.lt_or_ge g w.heap.size with h | h
      · exact h
      · rw [Array.getElem?_eq_none h] at hg; cases hg
    obtain ⟨l, hLe⟩ : ∃ l : List (QI (RowQ w B)), l = L.attachWith (RowQ w B) hr := ⟨_, rfl⟩
    have hv : l.map Subtype.val = L := by rw [hLe, attach_val]
    have hln : l.length = L.length := by rw [← hv, List.length_map]
    have hcells : l.map (QI.val1 (Q := RowQ w B)) = L.flatMap IR.one := by rw [vals_one, hv]
    have H := Any.slices_SortFunc Tryz.sortRows (QI.val1 (Q := RowQ w B)) oneCell_val1 itCf swo_itCf 17 #[] g 0 cap l.toArray w enters_Order
      (cmpLays_Order w B g 0 l.toArray.size hB hbg) (own_holds1 _ hg (by rw [hln, hcells]; rw [Nat.mul_one] at ht; exact ht)) hlt (by rw [List.size_toArray, hln]; omega)
    rw [show l.toArray.size = L.length by rw [List.size_toArray, hln]] at H
    refine H.mono fun e w' ⟨he, d', m, os, hp, hsrt, hw⟩ => ?_
    rw [show L.length = l.toArray.size by rw [List.size_toArray, hln]] at hp hsrt
    have hperm := perm_all hp
    have hd : d' = d'.toList.toArray := by simp
    have hdl : d'.toList.length = L.length := by rw [hperm.length_eq]; simpa using hln
    have ho := own_sorted1 (QI.val1 (Q := RowQ w B)) (l' := d'.toList) (n := m) (os := os) hbg hg (by rw [hdl]; exact hcap) hm (by rw [Nat.mul_one] at hs; exact hs)
    rw [← hd, ← hw, vals_one, hdl] at ho
    refine ⟨he, d'.toList.map Subtype.val, ?_, ?_, ho, ?_⟩
    · have := hperm.map Subtype.val
      rw [hv] at this
      exact this
    · intro i j hi hj hij
      simp only [List.length_map] at hi hj
      have h1 := hsrt i j (Nat.zero_le _) hij (by rw [List.size_toArray, hln, ← hdl]; exact hj)
      have hi' : i < d'.size := by simpa using hi
      have hj' : j < d'.size := by simpa using hj
      rw [getElem!_pos d' i hi', getElem!_pos d' j hj'] at h1
      simp only [List.getElem_map, Array.getElem_toList]
      have h2 := cmpL_neg (d'[i]).1.row (d'[j]).1.row
      have h3 : ¬ cmpL (d'[j]).1.row (d'[i]).1.row < 0 := by
        simp only [ltOf, itCf] at h1
        exact of_decide_eq_false h1
      omega
    · rw [hw]
      exact sortWorld_grown _ _ _ _ _ _ _
end Go.Proofs.YtldlmkfigjicgaaGreatDoor
