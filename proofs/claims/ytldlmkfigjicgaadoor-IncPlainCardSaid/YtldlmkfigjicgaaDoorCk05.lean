/- Bst, ItaP, ToP, ToM, ToO -/
import Derived.WalkKit
import Derived.Lib.ItoaNum
import Derived.Test.YtldlmkfigjicgaaDoorCk01
import Derived.Test.YtldlmkfigjicgaaDoorRows
import Derived.Maps.OwnOps
import Derived.StringKeys
import Derived.Maps.Views
import Derived.Lib.AppendIntMem
import Derived.Test.YtldlmkfigjicgaaDoorCk02
/- Lists of bytes as strings. No program in sight. -/
namespace Go.Proofs.YtldlmkfigjicgaaDoor
abbrev bstr (l : List UInt8) : ByteArray := ⟨l.toArray⟩
theorem bstr_app (a b : List UInt8) : bstr a ++ bstr b = bstr (a ++ b) := by
  apply ByteArray.ext
  rw [ByteArray.data_append]
  simp
theorem bstr_size (a : List UInt8) : (bstr a).size = a.length := rfl
end Go.Proofs.YtldlmkfigjicgaaDoor
/- Numerals and names of rows: different ones read differently. No program in sight. -/
namespace Go.Proofs.YtldlmkfigjicgaaDoor
open Go Go.Lib
set_option linter.unusedVariables false
set_option linter.unusedSimpArgs false

/-- What a numeral says. -/
def decVal (l : List UInt8) : Nat := l.foldl (fun n b => n * 10 + (b.toNat - 48)) 0
theorem decVal_snoc (l : List UInt8) (b : UInt8) : decVal (l ++ [b]) = decVal l * 10 + (b.toNat - 48) := by simp [decVal]
theorem b8_digit (n : Nat) (h : n < 10) : (UInt8.ofNat (48 + n)).toNat = 48 + n := by rw [UInt8.toNat_ofNat']; exact Nat.mod_eq_of_lt (by omega)
theorem decDigits_small {u : Nat} (h : u < 10) : decDigits u = [UInt8.ofNat (48 + u)] := decDigits_one h
theorem decDigits_big {u : Nat} (h : ¬ u < 10) : decDigits u = decDigits (u / 10) ++ [UInt8.ofNat (48 + u % 10)] := by rw [decDigits, dif_neg h]
theorem decVal_digits (u : Nat) : decVal (decDigits u) = u := by
  induction u using Nat.strongRecOn with
  | ind u ih =>
    by_cases h : u < 10
    · rw [decDigits_small h]; simp only [decVal, List.foldl_cons, List.foldl_nil]; rw [b8_digit u h]; omega
    · rw [decDigits_big h, decVal_snoc, ih (u / 10) (by omega), b8_digit _ (Nat.mod_lt _ (by omega))]; omega
/-- All bytes of a numeral are digits. -/
theorem decDigits_all (u : Nat) : ∀ b ∈ decDigits u, 48 ≤ b.toNat ∧ b.toNat ≤ 57 := by
  induction u using Nat.strongRecOn with
  | ind u ih =>
    by_cases h : u < 10
    · rw [decDigits_small h]; intro b hb; rw [List.mem_singleton.1 hb, b8_digit u h]; omega
    · rw [decDigits_big h]
      intro b hb
      rcases List.mem_append.1 hb with hb | hb
      · exact ih (u / 10) (by omega) b hb
      · rw [List.mem_singleton.1 hb, b8_digit _ (Nat.mod_lt _ (by omega))]; omega
theorem decDigits_ne (u : Nat) : decDigits u ≠ [] := by
  by_cases h : u < 10
  · rw [decDigits_small h]; simp
  · rw [decDigits_big h]; simp
theorem decDigits_inj {u v : Nat} (h : decDigits u = decDigits v) : u = v := by rw [← decVal_digits u, h, decVal_digits]
theorem itoa_inj {n m : Int} (h : itoa n = itoa m) : n = m := by
  unfold itoa at h
  have hn : ∀ u l, decDigits u ≠ 45 :: l := fun u l e => by
    have := decDigits_all u 45 (by rw [e]; exact List.mem_cons_self ..)
    exact absurd this.1 (by decide)
  split at h <;> split at h
  · injection h with _ h; have := decDigits_inj h; omega
  · exact absurd h.symm (hn _ _)
  · exact absurd h (hn _ _)
  · have := decDigits_inj h; omega
theorem itoa_no_comma (n : Int) : ∀ b ∈ itoa n, b ≠ 44 := by
  intro b hb e
  subst e
  unfold itoa at hb
  split at hb
  · rcases List.mem_cons.1 hb with hb | hb
    · exact absurd hb (by decide)
    · exact absurd (decDigits_all _ _ hb).1 (by decide)
  · exact absurd (decDigits_all _ _ hb).1 (by decide)
/-- The name of a row: its numbers, each with a comma behind it. -/
def nameB : List Int → List UInt8
  | [] => []
  | n :: l => itoa n ++ 44 :: nameB l
theorem nameB_snoc (l : List Int) (n : Int) : nameB (l ++ [n]) = nameB l ++ (itoa n ++ [44]) := by
  induction l with
  | nil => rfl
  | cons x l ih => simp only [List.cons_append, nameB, ih, List.append_assoc, List.cons_append]
theorem comma_split {a b c d : List UInt8} (ha : ∀ x ∈ a, x ≠ 44) (hc : ∀ x ∈ c, x ≠ 44) (h : a ++ 44 :: b = c ++ 44 :: d) : a = c ∧ b = d := by
  induction a generalizing c with
  | nil =>
    cases c with
    | nil => injection h with _ h; exact ⟨rfl, h⟩
    | cons x c => injection h with e _; exact absurd e.symm (hc x (List.mem_cons_self ..))
  | cons y a ih =>
    cases c with
    | nil => injection h with e _; exact absurd e (ha y (List.mem_cons_self ..))
    | cons x c =>
      injection h with e h
      obtain ⟨e1, e2⟩ := ih (fun z hz => ha z (List.mem_cons_of_mem _ hz)) (fun z hz => hc z (List.mem_cons_of_mem _ hz)) h
      exact ⟨by rw [e, e1], e2⟩
theorem nameB_inj : ∀ {a b : List Int}, nameB a = nameB b → a = b
  | [], [], _ => rfl
  | [], y :: b, h => by simp only [nameB] at h; exact absurd (congrArg List.length h) (by simp)
  | x :: a, [], h => by simp only [nameB] at h; exact absurd (congrArg List.length h) (by simp)
  | x :: a, y :: b, h => by
    simp only [nameB] at h
    obtain ⟨e1, e2⟩ := comma_split (itoa_no_comma x) (itoa_no_comma y) h
    rw [itoa_inj e1, nameB_inj e2]
end Go.Proofs.YtldlmkfigjicgaaDoor
/- viewref.Total: its plain law: rising rows, each with its weight, are the set of the list. No program in sight. -/
namespace Go.Proofs.YtldlmkfigjicgaaDoor
set_option linter.unusedVariables false
set_option linter.unusedSimpArgs false

/-- What has been told of the first k of rows that don't fall. -/
def TotI (F : List Int → Int) (R : List (List Int)) (k : Nat) (S : List It) : Prop :=
  Strict S ∧ (∀ r, wt S r = if r ∈ R.take k then F r else 0) ∧ ∀ x ∈ S, x.1 ∈ R.take k
def RisingR (R : List (List Int)) : Prop := ∀ i j, (hi : i < R.length) → (hj : j < R.length) → i < j → cmpL R[i] R[j] ≤ 0
theorem totI_nil (F : List Int → Int) (R : List (List Int)) : TotI F R 0 [] := ⟨trivial, fun r => by simp [wt, tot]; rfl, fun x hx => by simp at hx⟩
theorem take_mem_succ {R : List (List Int)} {k : Nat} (hk : k < R.length) (r : List Int) : r ∈ R.take (k + 1) ↔ r ∈ R.take k ∨ r = R[k] := by
  rw [List.take_succ_eq_append_getElem hk, List.mem_append, List.mem_singleton]
theorem totI_twice {F : List Int → Int} {R : List (List Int)} {k : Nat} {S : List It} (h : TotI F R k S) (hk : k < R.length) (h0 : 0 < k) (he : cmpL (R[k - 1]'(by omega)) R[k] = 0) : TotI F R (k + 1) S := by
  have hin : R[k] ∈ R.take k := by
    rw [← cmpL_eq _ _ he]
    exact List.mem_iff_getElem.2 ⟨k - 1, by rw [List.length_take]; omega, by rw [List.getElem_take]⟩
  have hm : ∀ r, r ∈ R.take (k + 1) ↔ r ∈ R.take k := fun r => (take_mem_succ hk r).trans ⟨fun q => q.elim id fun e => e ▸ hin, .inl⟩
  exact ⟨h.1, fun r => by rw [h.2.1 r]; simp only [hm r], fun x hx => (hm _).2 (h.2.2 x hx)⟩
theorem totI_none {F : List Int → Int} {R : List (List Int)} {k : Nat} {S : List It} (h : TotI F R k S) (hk : k < R.length) (he : F R[k] = 0) : TotI F R (k + 1) S := by
  refine ⟨h.1, fun r => ?_, fun x hx => (take_mem_succ hk _).2 (.inl (h.2.2 x hx))⟩
  rw [h.2.1 r]
  by_cases e : r = R[k]
  · subst e; rw [he]; simp
  · have : (r ∈ R.take (k + 1)) ↔ (r ∈ R.take k) := (take_mem_succ hk r).trans ⟨fun q => q.elim id fun e' => absurd e' e, .inl⟩
    simp only [this]
theorem totI_more {F : List Int → Int} {R : List (List Int)} {k : Nat} {S : List It} (hR : RisingR R) (h : TotI F R k S) (hk : k < R.length) (hne : ∀ _ : 0 < k, cmpL (R[k - 1]'(by omega)) R[k] ≠ 0) (h0 : F R[k] ≠ 0) (hw : wrp (F R[k]) = F R[k]) : TotI F R (k + 1) (S ++ [(R[k], F R[k])]) := by
  have hlt : ∀ j, (hj : j < k) → cmpL (R[j]'(by omega)) R[k] < 0 := fun j hj => by
    have h1 := hR (k - 1) k (by omega) hk (by omega)
    have h2 := hne (by omega)
    by_cases e : j = k - 1
    · subst e; omega
    · exact cmpL_le_lt (hR j (k - 1) (by omega) (by omega) (by omega)) (by omega)
  have hlm : ∀ r ∈ R.take k, cmpL r R[k] < 0 := fun r hr => by
    obtain ⟨j, hj, e⟩ := List.mem_iff_getElem.1 hr
    rw [List.length_take] at hj
    rw [List.getElem_take] at e
    rw [← e]
    exact hlt j (by omega)
  have hni : R[k] ∉ R.take k := fun q => by have := hlm _ q; rw [cmpL_self] at this; omega
  have hw0 : wrp (tot R[k] S) = 0 := by have := h.2.1 R[k]; rw [if_neg hni] at this; exact this
  refine ⟨strict_app h.1 ⟨h0, hw, fun y hy => by simp at hy, trivial⟩ fun x hx y hy => ?_, fun r => ?_, fun x hx => ?_⟩
  · rw [List.mem_singleton.1 hy]; exact hlm _ (h.2.2 x hx)
  · by_cases e : r = R[k]
    · subst e
      rw [if_pos ((take_mem_succ hk _).2 (.inr rfl))]
      show wrp (tot R[k] (S ++ [(R[k], F R[k])])) = _
      rw [tot_app, ← wrp_add, hw0]
      simp [tot, hw]
    · have hm : (r ∈ R.take (k + 1)) ↔ (r ∈ R.take k) := (take_mem_succ hk r).trans ⟨fun q => q.elim id fun e' => absurd e' e, .inl⟩
      simp only [hm]
      rw [← h.2.1 r]
      show wrp (tot r (S ++ [(R[k], F R[k])])) = wrp (tot r S)
      rw [tot_app]
      simp [tot, Ne.symm e]
  · rcases List.mem_append.1 hx with q | q
    · exact (take_mem_succ hk _).2 (.inl (h.2.2 x q))
    · rw [List.mem_singleton.1 q]; exact (take_mem_succ hk _).2 (.inr rfl)
theorem totI_end {L : List It} {R : List (List Int)} {S : List It} (h : TotI (wt L) R R.length S) (hm : ∀ x ∈ L, x.1 ∈ R) : S = sumL L := by
  refine sumL_eq h.1 fun r => ?_
  rw [h.2.1 r, List.take_length]
  by_cases e : r ∈ R
  · rw [if_pos e]
  · rw [if_neg e]
    unfold wt
    rw [tot_none fun x hx q => by have h1 := hm x hx; rw [q] at h1; exact e h1]
    rfl
/-- Adding one by one. -/
theorem wt_take_succ (r : List Int) (L : List It) {k : Nat} (hk : k < L.length) : wt (L.take (k + 1)) r = if L[k].1 = r then wrp (wt (L.take k) r + L[k].2) else wt (L.take k) r := by
  unfold wt
  rw [tot_take_succ r L hk]
  split
  · rw [wrp_add]
  · rw [Int.add_zero]
end Go.Proofs.YtldlmkfigjicgaaDoor
/- Maps of sums, by rows' names. -/
namespace Go.Proofs.YtldlmkfigjicgaaDoor
set_option linter.unusedVariables false
set_option linter.unusedSimpArgs false
open Go.ChangeShapes Go.WideShapes Go.ChangeAt Go.RowKit

/-- What a row's name is as a key. -/
abbrev kN (r : List Int) : Lit := .string (nameB r)
theorem kN_ne {a b : List Int} (h : a ≠ b) : kN a ≠ kN b := fun e => h (nameB_inj (by injection e))
theorem isKeyN (r : List Int) : WideAt.IsKeyLit (kN r) := trivial
theorem str_law : Maps.Keyed Tryd.prog 9 := Maps.string_keyed Tryd.underlying9
theorem keyOf_N {r : List Int} (h : (nameB r).length ≤ maxLen) : keyOf Tryd.prog 9 (.string (bstr (nameB r))) = some (kN r) := WideMaps.keyOf_string_mk Tryd.underlying9 h
theorem wf_i64' (k : Int) (h : wrp k = k) : (Lit.int .i64 k).wf = true := by
  have := wrp_in k
  rw [h] at this
  simp [Lit.wf, IntKind.min, IntKind.max, IntKind.signed, IntKind.bits]; omega
theorem zero_int (w : World) : (zeroValue 3).run Tryd.prog w = .ok (.int .i64 0) w := by kernel_rfl
/-- A map of sums: what it holds of each row. -/
def SMap (F : List Int → Int) (D : DataW Unit) : Prop := Maps.IsMap D ∧ ∀ r, D.atKey (kN r) (.lit (.int .i64 0)) = .lit (.int .i64 (F r))
theorem SMap.nil : SMap (fun _ => 0) (.map []) := ⟨Maps.isMap_empty, fun r => rfl⟩
theorem SMap.put {F G : List Int → Int} {D : DataW Unit} (h : SMap F D) (r : List Int) (v : Int) (hG : ∀ q, G q = if q = r then v else F q) : SMap G (D.put (kN r) (.lit (.int .i64 v))) := by
  refine ⟨h.1.put _ _, fun q => ?_⟩
  by_cases e : q = r
  · subst e
    rw [hG, if_pos rfl]
    exact Maps.atKey_put_same h.1 (isKeyN _) _ _
  · rw [hG, if_neg e, Maps.atKey_put_other (kN_ne e)]
    exact h.2 q
theorem SMap.at {F : List Int → Int} {D : DataW Unit} (h : SMap F D) {r : List Int} {c : Int} (hc : D.atKey (kN r) (.lit (.int .i64 0)) = .lit (.int .i64 c)) : c = F r := by
  rw [h.2 r] at hc
  injection hc with hc
  injection hc with _ hc
  exact hc.symm
end Go.Proofs.YtldlmkfigjicgaaDoor
/- viewref.Order. -/
namespace Go.Proofs.YtldlmkfigjicgaaDoor
set_option linter.unusedVariables false
set_option linter.unusedSimpArgs false
open Go.ChangeShapes Go.WideShapes Go.ChangeAt Go.RowKit

set_option maxHeartbeats 1000000 in
set_option maxRecDepth 100000 in
theorem Rorder_any (l m : List Int) (A B : Option Addr) (c e : Nat) (w : World) (hr : Row w w.heap.size A (icells' l)) (hs : Row w w.heap.size B (icells' m)) (hl : l.length ≤ 9223372036854775807) (hm : m.length ≤ 9223372036854775807) :
    Calls Tryd.prog 44 #[.slice A l.length c, .slice B m.length e] w fun e w' => e = .returned (.int .i64 (cmpL l m)) ∧ ∃ q, w' = w.drewN q := by
  have HR := hid hr
  have HS := hid hs
  obtain ⟨R, hR⟩ : ∃ R, R = cmpL l m := ⟨_, rfl⟩
  rw [← hR]
  have HR0 := hid hR
  clear hr hs hR
  go_enter Tryd.func44, Tryd.ntmps44
  go_wp2_with fail
  -- STOP-a
  go_loopw [5] (fun s5 wr => ∃ k : Nat, k ≤ l.length ∧ k ≤ m.length ∧ s5 = .int .i64 k ∧ Hid (R = cmpL (l.drop k) (m.drop k)) ∧ ∃ n, wr = w.drewN n) (fun s5 _ => l.length - (intOf s5).toNat)
  case atStart => exact ⟨0, by omega, by omega, rfl, HR0, 0, rfl⟩
  case round =>
    obtain ⟨k, hkl, hkm, rfl, HK, n, rfl⟩ := hrel
    by_cases h1 : k < l.length
    · have t1 : ((k : Int) < (l.length : Int)) = True := eq_true (by omega)
      by_cases h2 : k < m.length
      · have t2 : ((k : Int) < (m.length : Int)) = True := eq_true (by omega)
        obtain ⟨b, off, rfl, hb, c0⟩ := HR.out.int' h1
        obtain ⟨b', off', rfl, hb', c1⟩ := HS.out.int' h2
        have HC := hid (show R = if l[k] < m[k] then -1 else if m[k] < l[k] then 1 else cmpL (l.drop (k + 1)) (m.drop (k + 1)) by rw [HK.out, List.drop_eq_getElem_cons h1, List.drop_eq_getElem_cons h2, cmpL])
        generalize l[k] = x at *
        generalize m[k] = y at *
        clear HK HR0
        by_cases q1 : x < y
        · have t3 : (x < y) = True := eq_true q1
          have he : Hid (R = -1) := hid (by rw [HC.out, if_pos q1])
          clear HC q1
          go_wp2_with fail
          -- STOP-b
          refine wp_region_quiet_lit (by kernel_rfl) (by kernel_rfl) ?_
          repeat (any_goals ((with_reducible refine wpQuiet_step (fun K hK => ?_)); go_simp; first | (with_reducible refine hK _ ?_; clear hK K) | ((with_reducible apply Exists.intro); (with_reducible refine ⟨fun _ => ?_, hK _ ?_⟩); (fail); clear hK K) | ((with_reducible refine (if_neg ?_).mpr (hK _ ?_)); (decide); clear hK K) | (split <;> (with_reducible refine hK _ ?_; clear hK K))))
          all_goals ((with_reducible refine wpQuiet_nil ?_); intro _ hw'; obtain ⟨nq, hw''⟩ := hw'; subst hw'')
          all_goals
            go_wp2_with fail
            go_ret
            exact ⟨ret_int he.out.symm, _, by first | rfl | (simp only [World.drewN_drewN, World.drew_drewN, World.drewN_drew]; rfl)⟩
        · by_cases q2 : y < x
          · have t3 : (x < y) = False := eq_false q1
            have t4 : (y < x) = True := eq_true q2
            have he : Hid (R = 1) := hid (by rw [HC.out, if_neg q1, if_pos q2])
            clear HC q1 q2
            go_wp2_with fail
            refine wp_region_quiet_lit (by kernel_rfl) (by kernel_rfl) ?_
            repeat (any_goals ((with_reducible refine wpQuiet_step (fun K hK => ?_)); go_simp; first | (with_reducible refine hK _ ?_; clear hK K) | ((with_reducible apply Exists.intro); (with_reducible refine ⟨fun _ => ?_, hK _ ?_⟩); (fail); clear hK K) | ((with_reducible refine (if_neg ?_).mpr (hK _ ?_)); (decide); clear hK K) | (split <;> (with_reducible refine hK _ ?_; clear hK K))))
            all_goals ((with_reducible refine wpQuiet_nil ?_); intro _ hw'; obtain ⟨nq, hw''⟩ := hw'; subst hw'')
            all_goals
              go_wp2_with fail
              refine wp_region_quiet_lit (by kernel_rfl) (by kernel_rfl) ?_
              repeat (any_goals ((with_reducible refine wpQuiet_step (fun K hK => ?_)); go_simp; first | (with_reducible refine hK _ ?_; clear hK K) | ((with_reducible apply Exists.intro); (with_reducible refine ⟨fun _ => ?_, hK _ ?_⟩); (fail); clear hK K) | ((with_reducible refine (if_neg ?_).mpr (hK _ ?_)); (decide); clear hK K) | (split <;> (with_reducible refine hK _ ?_; clear hK K))))
              all_goals ((with_reducible refine wpQuiet_nil ?_); intro _ hw'; obtain ⟨nq, hw''⟩ := hw'; subst hw'')
              all_goals
                go_wp2_with fail
                go_ret
                exact ⟨ret_int he.out.symm, _, by first | rfl | (simp only [World.drewN_drewN, World.drew_drewN, World.drewN_drew]; rfl)⟩
          · have t3 : (x < y) = False := eq_false q1
            have t4 : (y < x) = False := eq_false q2
            have he : Hid (R = cmpL (l.drop (k + 1)) (m.drop (k + 1))) := hid (by rw [HC.out, if_neg q1, if_neg q2])
            clear HC q1 q2
            go_wp2_with fail
            refine wp_region_quiet_lit (by kernel_rfl) (by kernel_rfl) ?_
            repeat (any_goals ((with_reducible refine wpQuiet_step (fun K hK => ?_)); go_simp; first | (with_reducible refine hK _ ?_; clear hK K) | ((with_reducible apply Exists.intro); (with_reducible refine ⟨fun _ => ?_, hK _ ?_⟩); (fail); clear hK K) | ((with_reducible refine (if_neg ?_).mpr (hK _ ?_)); (decide); clear hK K) | (split <;> (with_reducible refine hK _ ?_; clear hK K))))
            all_goals ((with_reducible refine wpQuiet_nil ?_); intro _ hw'; obtain ⟨nq, hw''⟩ := hw'; subst hw'')
            all_goals
              go_wp2_with fail
              refine wp_region_quiet_lit (by kernel_rfl) (by kernel_rfl) ?_
              repeat (any_goals ((with_reducible refine wpQuiet_step (fun K hK => ?_)); go_simp; first | (with_reducible refine hK _ ?_; clear hK K) | ((with_reducible apply Exists.intro); (with_reducible refine ⟨fun _ => ?_, hK _ ?_⟩); (fail); clear hK K) | ((with_reducible refine (if_neg ?_).mpr (hK _ ?_)); (decide); clear hK K) | (split <;> (with_reducible refine hK _ ?_; clear hK K))))
              all_goals ((with_reducible refine wpQuiet_nil ?_); intro _ hw'; obtain ⟨nq, hw''⟩ := hw'; subst hw'')
              all_goals
                go_wp2_with fail
                -- STOP-c
                go_roundw
                case rel => exact ⟨k + 1, by omega, by omega, by go_num, he, _, by first | rfl | (simp only [World.drewN_drewN, World.drew_drewN, World.drewN_drew]; rfl)⟩
                case measure => simp [intOf]; omega
      · have t2 : ((k : Int) < (m.length : Int)) = False := eq_false (by omega)
        have he : Hid (R = 1) := hid (by rw [HK.out, List.drop_eq_getElem_cons h1, show m.drop k = [] from List.drop_eq_nil_of_le (by omega)]; rfl)
        have t3 : ((l.length : Int) < (m.length : Int)) = False := eq_false (by omega)
        have t4 : ((m.length : Int) < (l.length : Int)) = True := eq_true (by omega)
        clear HK HR0
        go_wp2_with fail
        -- STOP-d
        go_ret
        exact ⟨ret_int he.out.symm, _, rfl⟩
    · have t1 : ((k : Int) < (l.length : Int)) = False := eq_false (by omega)
      by_cases h2 : l.length < m.length
      · have he : Hid (R = -1) := hid (by rw [HK.out, show l.drop k = [] from List.drop_eq_nil_of_le (by omega), List.drop_eq_getElem_cons (show k < m.length by omega)]; rfl)
        have t3 : ((l.length : Int) < (m.length : Int)) = True := eq_true (by omega)
        clear HK HR0
        go_wp2_with fail
        go_ret
        exact ⟨ret_int he.out.symm, _, rfl⟩
      · have he : Hid (R = 0) := hid (by rw [HK.out, show l.drop k = [] from List.drop_eq_nil_of_le (by omega), show m.drop k = [] from List.drop_eq_nil_of_le (by omega)]; rfl)
        have t3 : ((l.length : Int) < (m.length : Int)) = False := eq_false (by omega)
        have t4 : ((m.length : Int) < (l.length : Int)) = False := eq_false (by omega)
        clear HK HR0
        go_wp2_with fail
        go_ret
        exact ⟨ret_int he.out.symm, _, rfl⟩
end Go.Proofs.YtldlmkfigjicgaaDoor
