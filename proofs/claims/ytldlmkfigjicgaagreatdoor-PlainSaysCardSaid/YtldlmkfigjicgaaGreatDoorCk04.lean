/- Bst, ItaP, ToP, ToM, ToO, RsA -/
import Derived.WalkKit
import Derived.Lib.ItoaNum
import Derived.Test.YtldlmkfigjicgaaGreatDoorCk03
import Derived.Test.YtldlmkfigjicgaaGreatDoorRows
import Derived.Test.YtldlmkfigjicgaaGreatDoorCk01
import Derived.Maps.OwnOps
import Derived.StringKeys
import Derived.Maps.Views
import Derived.Lib.AppendIntMem
import Derived.Deep.CutBlock
import Derived.Deep.CutRange
/- Lists of bytes as strings. No program in sight. -/
namespace Go.Proofs.YtldlmkfigjicgaaGreatDoor
abbrev bstr (l : List UInt8) : ByteArray := ⟨l.toArray⟩
theorem bstr_app (a b : List UInt8) : bstr a ++ bstr b = bstr (a ++ b) := by
  apply ByteArray.ext
  rw [ByteArray.data_append]
  simp
theorem bstr_size (a : List UInt8) : (bstr a).size = a.length := rfl
end Go.Proofs.YtldlmkfigjicgaaGreatDoor
/- Numerals and names of rows: different ones read differently. No program in sight. -/
namespace Go.Proofs.YtldlmkfigjicgaaGreatDoor
open Go Go.Lib
set_option linter.unusedVariables false
set_option linter.unusedSimpArgs false

/-- What a numeral says. -/
def decVal (l : List UInt8) : Nat := l.foldl (fun n b => n * 10 + (b.toNat - 48)) 0
theorem decVal_snoc (l : List UInt8) (b : UInt8) : decVal (l ++ [b]) = decVal l * 10 + (b.toNat - 48) := by simp [decVal]
theorem b8_digit (n : Nat) (h : n < 10) : (UInt8.ofNat (48 + n)).toNat = 48 + n := by rw [UInt8.toNat_ofNat']; exact Nat.mod_eq_of_lt (by omega)
theorem decDigits_small {u : Nat} (h : u < 10) : decDigits u = [UInt8.ofNat (48 + u)] := decDigits_one h
theorem decDigits_big {u : Nat} (h : ¬ u < 10) : decDigits u = decDigits (u / 10) ++ [UInt8.ofNat (48 + u % 10)] := by rw [decDigits, dif_neg h]
theorem decVal_digits (u : Nat) : decVal (decDigits u) = u := by
  induction u using Nat.strongRecOn with
  | ind u ih =>
    by_cases h : u < 10
    · rw [decDigits_small h]; simp only [decVal, List.foldl_cons, List.foldl_nil]; rw [b8_digit u h]; omega
    · rw [decDigits_big h, decVal_snoc, ih (u / 10) (by omega), b8_digit _ (Nat.mod_lt _ (by omega))]; omega
/-- All bytes of a numeral are digits. -/
theorem decDigits_all (u : Nat) : ∀ b ∈ decDigits u, 48 ≤ b.toNat ∧ b.toNat ≤ 57 := by
  induction u using Nat.strongRecOn with
  | ind u ih =>
    by_cases h : u < 10
    · rw [decDigits_small h]; intro b hb; rw [List.mem_singleton.1 hb, b8_digit u h]; omega
    · rw [decDigits_big h]
      intro b hb
      rcases List.mem_append.1 hb with hb | hb
      · exact ih (u / 10) (by omega) b hb
      · rw [List.mem_singleton.1 hb, b8_digit _ (Nat.mod_lt _ (by omega))]; omega
theorem decDigits_ne (u : Nat) : decDigits u ≠ [] := by
  by_cases h : u < 10
  · rw [decDigits_small h]; simp
  · rw [decDigits_big h]; simp
theorem decDigits_inj {u v : Nat} (h : decDigits u = decDigits v) : u = v := by rw [← decVal_digits u, h, decVal_digits]
theorem itoa_inj {n m : Int} (h : itoa n = itoa m) : n = m := by
  unfold itoa at h
  have hn : ∀ u l, decDigits u ≠ 45 :: l := fun u l e => by
    have := decDigits_all u 45 (by rw [e]; exact List.mem_cons_self ..)
    exact absurd this.1 (by decide)
  split at h <;> split at h
  · injection h with _ h; have := decDigits_inj h; omega
  · exact absurd h.symm (hn _ _)
  · exact absurd h (hn _ _)
  · have := decDigits_inj h; omega
theorem itoa_no_comma (n : Int) : ∀ b ∈ itoa n, b ≠ 44 := by
  intro b hb e
  subst e
  unfold itoa at hb
  split at hb
  · rcases List.mem_cons.1 hb with hb | hb
    · exact absurd hb (by decide)
    · exact absurd (decDigits_all _ _ hb).1 (by decide)
  · exact absurd (decDigits_all _ _ hb).1 (by decide)
/-- The name of a row: its numbers, each with a comma behind it. -/
def nameB : List Int → List UInt8
  | [] => []
  | n :: l => itoa n ++ 44 :: nameB l
theorem nameB_snoc (l : List Int) (n : Int) : nameB (l ++ [n]) = nameB l ++ (itoa n ++ [44]) := by
  induction l with
  | nil => rfl
  | cons x l ih => simp only [List.cons_append, nameB, ih, List.append_assoc, List.cons_append]
theorem comma_split {a b c d : List UInt8} (ha : ∀ x ∈ a, x ≠ 44) (hc : ∀ x ∈ c, x ≠ 44) (h : a ++ 44 :: b = c ++ 44 :: d) : a = c ∧ b = d := by
  induction a generalizing c with
  | nil =>
    cases c with
    | nil => injection h with _ h; exact ⟨rfl, h⟩
    | cons x c => injection h with e _; exact absurd e.symm (hc x (List.mem_cons_self ..))
  | cons y a ih =>
    cases c with
    | nil => injection h with e _; exact absurd e (ha y (List.mem_cons_self ..))
    | cons x c =>
      injection h with e h
      obtain ⟨e1, e2⟩ := ih (fun z hz => ha z (List.mem_cons_of_mem _ hz)) (fun z hz => hc z (List.mem_cons_of_mem _ hz)) h
      exact ⟨by rw [e, e1], e2⟩
theorem nameB_inj : ∀ {a b : List Int}, nameB a = nameB b → a = b
  | [], [], _ => rfl
  | [], y :: b, h => by simp only [nameB] at h; exact absurd (congrArg List.length h) (by simp)
  | x :: a, [], h => by simp only [nameB] at h; exact absurd (congrArg List.length h) (by simp)
  | x :: a, y :: b, h => by
    simp only [nameB] at h
    obtain ⟨e1, e2⟩ := comma_split (itoa_no_comma x) (itoa_no_comma y) h
    rw [itoa_inj e1, nameB_inj e2]
end Go.Proofs.YtldlmkfigjicgaaGreatDoor
/- viewref.Total: its plain law: rising rows, each with its weight, are the set of the list. No program in sight. -/
namespace Go.Proofs.YtldlmkfigjicgaaGreatDoor
set_option linter.unusedVariables false
set_option linter.unusedSimpArgs false

/-- What has been told of the first k of rows that don't fall. -/
def TotI (F : List Int → Int) (R : List (List Int)) (k : Nat) (S : List It) : Prop :=
  Strict S ∧ (∀ r, wt S r = if r ∈ R.take k then F r else 0) ∧ ∀ x ∈ S, x.1 ∈ R.take k
def RisingR (R : List (List Int)) : Prop := ∀ i j, (hi : i < R.length) → (hj : j < R.length) → i < j → cmpL R[i] R[j] ≤ 0
theorem totI_nil (F : List Int → Int) (R : List (List Int)) : TotI F R 0 [] := ⟨trivial, fun r => by simp [wt, tot]; rfl, fun x hx => by simp at hx⟩
theorem take_mem_succ {R : List (List Int)} {k : Nat} (hk : k < R.length) (r : List Int) : r ∈ R.take (k + 1) ↔ r ∈ R.take k ∨ r = R[k] := by
  rw [List.take_succ_eq_append_getElem hk, List.mem_append, List.mem_singleton]
theorem totI_twice {F : List Int → Int} {R : List (List Int)} {k : Nat} {S : List It} (h : TotI F R k S) (hk : k < R.length) (h0 : 0 < k) (he : cmpL (R[k - 1]'(by omega)) R[k] = 0) : TotI F R (k + 1) S := by
  have hin : R[k] ∈ R.take k := by
    rw [← cmpL_eq _ _ he]
    exact List.mem_iff_getElem.2 ⟨k - 1, by rw [List.length_take]; omega, by rw [List.getElem_take]⟩
  have hm : ∀ r, r ∈ R.take (k + 1) ↔ r ∈ R.take k := fun r => (take_mem_succ hk r).trans ⟨fun q => q.elim id fun e => e ▸ hin, .inl⟩
  exact ⟨h.1, fun r => by rw [h.2.1 r]; simp only [hm r], fun x hx => (hm _).2 (h.2.2 x hx)⟩
theorem totI_none {F : List Int → Int} {R : List (List Int)} {k : Nat} {S : List It} (h : TotI F R k S) (hk : k < R.length) (he : F R[k] = 0) : TotI F R (k + 1) S := by
  refine ⟨h.1, fun r => ?_, fun x hx => (take_mem_succ hk _).2 (.inl (h.2.2 x hx))⟩
  rw [h.2.1 r]
  by_cases e : r = R[k]
  · subst e; rw [he]; simp
  · have : (r ∈ R.take (k + 1)) ↔ (r ∈ R.take k) := (take_mem_succ hk r).trans ⟨fun q => q.elim id fun e' => absurd e' e, .inl⟩
    simp only [this]
theorem totI_more {F : List Int → Int} {R : List (List Int)} {k : Nat} {S : List It} (hR : RisingR R) (h : TotI F R k S) (hk : k < R.length) (hne : ∀ _ : 0 < k, cmpL (R[k - 1]'(by omega)) R[k] ≠ 0) (h0 : F R[k] ≠ 0) (hw : wrp (F R[k]) = F R[k]) : TotI F R (k + 1) (S ++ [(R[k], F R[k])]) := by
  have hlt : ∀ j, (hj : j < k) → cmpL (R[j]'(by omega)) R[k] < 0 := fun j hj => by
    have h1 := hR (k - 1) k (by omega) hk (by omega)
    have h2 := hne (by omega)
    by_cases e : j = k - 1
    · subst e; omega
    · exact cmpL_le_lt (hR j (k - 1) (by omega) (by omega) (by omega)) (by omega)
  have hlm : ∀ r ∈ R.take k, cmpL r R[k] < 0 := fun r hr => by
    obtain ⟨j, hj, e⟩ := List.mem_iff_getElem.1 hr
    rw [List.length_take] at hj
    rw [List.getElem_take] at e
    rw [← e]
    exact hlt j (by omega)
  have hni : R[k] ∉ R.take k := fun q => by have := hlm _ q; rw [cmpL_self] at this; omega
  have hw0 : wrp (tot R[k] S) = 0 := by have := h.2.1 R[k]; rw [if_neg hni] at this; exact this
  refine ⟨strict_app h.1 ⟨h0, hw, fun y hy => by simp at hy, trivial⟩ fun x hx y hy => ?_, fun r => ?_, fun x hx => ?_⟩
  · rw [List.mem_singleton.1 hy]; exact hlm _ (h.2.2 x hx)
  · by_cases e : r = R[k]
    · subst e
      rw [if_pos ((take_mem_succ hk _).2 (.inr rfl))]
      show wrp (tot R[k] (S ++ [(R[k], F R[k])])) = _
      rw [tot_app, ← wrp_add, hw0]
      simp [tot, hw]
    · have hm : (r ∈ R.take (k + 1)) ↔ (r ∈ R.take k) := (take_mem_succ hk r).trans ⟨fun q => q.elim id fun e' => absurd e' e, .inl⟩
      simp only [hm]
      rw [← h.2.1 r]
      show wrp (tot r (S ++ [(R[k], F R[k])])) = wrp (tot r S)
      rw [tot_app]
      simp [tot, Ne.symm e]
  · rcases List.mem_append.1 hx with q | q
    · exact (take_mem_succ hk _).2 (.inl (h.2.2 x q))
    · rw [List.mem_singleton.1 q]; exact (take_mem_succ hk _).2 (.inr rfl)
theorem totI_end {L : List It} {R : List (List Int)} {S : List It} (h : TotI (wt L) R R.length S) (hm : ∀ x ∈ L, x.1 ∈ R) : S = sumL L := by
  refine sumL_eq h.1 fun r => ?_
  rw [h.2.1 r, List.take_length]
  by_cases e : r ∈ R
  · rw [if_pos e]
  · rw [if_neg e]
    unfold wt
    rw [tot_none fun x hx q => by have h1 := hm x hx; rw [q] at h1; exact e h1]
    rfl
/-- Adding one by one. -/
theorem wt_take_succ (r : List Int) (L : List It) {k : Nat} (hk : k < L.length) : wt (L.take (k + 1)) r = if L[k].1 = r then wrp (wt (L.take k) r + L[k].2) else wt (L.take k) r := by
  unfold wt
  rw [tot_take_succ r L hk]
  split
  · rw [wrp_add]
  · rw [Int.add_zero]
end Go.Proofs.YtldlmkfigjicgaaGreatDoor
/- Maps of sums, by rows' names. -/
namespace Go.Proofs.YtldlmkfigjicgaaGreatDoor
set_option linter.unusedVariables false
set_option linter.unusedSimpArgs false
open Go.ChangeShapes Go.WideShapes Go.ChangeAt Go.RowKit

/-- What a row's name is as a key. -/
abbrev kN (r : List Int) : Lit := .string (nameB r)
theorem kN_ne {a b : List Int} (h : a ≠ b) : kN a ≠ kN b := fun e => h (nameB_inj (by injection e))
theorem isKeyN (r : List Int) : WideAt.IsKeyLit (kN r) := trivial
theorem str_law : Maps.Keyed Tryz.prog 9 := Maps.string_keyed Tryz.underlying9
theorem keyOf_N {r : List Int} (h : (nameB r).length ≤ maxLen) : keyOf Tryz.prog 9 (.string (bstr (nameB r))) = some (kN r) := WideMaps.keyOf_string_mk Tryz.underlying9 h
theorem wf_i64' (k : Int) (h : wrp k = k) : (Lit.int .i64 k).wf = true := by
  have := wrp_in k
  rw [h] at this
  simp [Lit.wf, IntKind.min, IntKind.max, IntKind.signed, IntKind.bits]; omega
theorem zero_int (w : World) : (zeroValue 3).run Tryz.prog w = .ok (.int .i64 0) w := by kernel_rfl
/-- A map of sums: what it holds of each row. -/
def SMap (F : List Int → Int) (D : DataW Unit) : Prop := Maps.IsMap D ∧ ∀ r, D.atKey (kN r) (.lit (.int .i64 0)) = .lit (.int .i64 (F r))
theorem SMap.nil : SMap (fun _ => 0) (.map []) := ⟨Maps.isMap_empty, fun r => rfl⟩
theorem SMap.put {F G : List Int → Int} {D : DataW Unit} (h : SMap F D) (r : List Int) (v : Int) (hG : ∀ q, G q = if q = r then v else F q) : SMap G (D.put (kN r) (.lit (.int .i64 v))) := by
  refine ⟨h.1.put _ _, fun q => ?_⟩
  by_cases e : q = r
  · subst e
    rw [hG, if_pos rfl]
    exact Maps.atKey_put_same h.1 (isKeyN _) _ _
  · rw [hG, if_neg e, Maps.atKey_put_other (kN_ne e)]
    exact h.2 q
theorem SMap.at {F : List Int → Int} {D : DataW Unit} (h : SMap F D) {r : List Int} {c : Int} (hc : D.atKey (kN r) (.lit (.int .i64 0)) = .lit (.int .i64 c)) : c = F r := by
  rw [h.2 r] at hc
  injection hc with hc
  injection hc with _ hc
  exact hc.symm
end Go.Proofs.YtldlmkfigjicgaaGreatDoor
/- viewref.Order. -/
namespace Go.Proofs.YtldlmkfigjicgaaGreatDoor
set_option linter.unusedVariables false
set_option linter.unusedSimpArgs false
open Go.ChangeShapes Go.WideShapes Go.ChangeAt Go.RowKit

set_option maxHeartbeats 1000000 in
set_option maxRecDepth 100000 in
theorem Rorder_any (l m : List Int) (A B : Option Addr) (c e : Nat) (w : World) (hr : Row w w.heap.size A (icells' l)) (hs : Row w w.heap.size B (icells' m)) (hl : l.length ≤ 9223372036854775807) (hm : m.length ≤ 9223372036854775807) :
    Calls Tryz.prog 17 #[.slice A l.length c, .slice B m.length e] w fun e w' => e = .returned (.int .i64 (cmpL l m)) ∧ ∃ q, w' = w.drewN q := by
  have HR := hid hr
  have HS := hid hs
  obtain ⟨R, hR⟩ : ∃ R, R = cmpL l m := ⟨_, rfl⟩
  rw [← hR]
  have HR0 := hid hR
  clear hr hs hR
  go_enter Tryz.func17, Tryz.ntmps17
  go_wp2_with fail
  -- STOP-a
  go_loopw [5] (fun s5 wr => ∃ k : Nat, k ≤ l.length ∧ k ≤ m.length ∧ s5 = .int .i64 k ∧ Hid (R = cmpL (l.drop k) (m.drop k)) ∧ ∃ n, wr = w.drewN n) (fun s5 _ => l.length - (intOf s5).toNat)
  case atStart => exact ⟨0, by omega, by omega, rfl, HR0, 0, rfl⟩
  case round =>
    obtain ⟨k, hkl, hkm, rfl, HK, n, rfl⟩ := hrel
    by_cases h1 : k < l.length
    · have t1 : ((k : Int) < (l.length : Int)) = True := eq_true (by omega)
      by_cases h2 : k < m.length
      · have t2 : ((k : Int) < (m.length : Int)) = True := eq_true (by omega)
        obtain ⟨b, off, rfl, hb, c0⟩ := HR.out.int' h1
        obtain ⟨b', off', rfl, hb', c1⟩ := HS.out.int' h2
        have HC := hid (show R = if l[k] < m[k] then -1 else if m[k] < l[k] then 1 else cmpL (l.drop (k + 1)) (m.drop (k + 1)) by rw [HK.out, List.drop_eq_getElem_cons h1, List.drop_eq_getElem_cons h2, cmpL])
        generalize l[k] = x at *
        generalize m[k] = y at *
        clear HK HR0
        by_cases q1 : x < y
        · have t3 : (x < y) = True := eq_true q1
          have he : Hid (R = -1) := hid (by rw [HC.out, if_pos q1])
          clear HC q1
          go_wp2_with fail
          -- STOP-b
          refine wp_region_quiet_lit (by kernel_rfl) (by kernel_rfl) ?_
          repeat (any_goals ((with_reducible refine wpQuiet_step (fun K hK => ?_)); go_simp; first | (with_reducible refine hK _ ?_; clear hK K) | ((with_reducible apply Exists.intro); (with_reducible refine ⟨fun _ => ?_, hK _ ?_⟩); (fail); clear hK K) | ((with_reducible refine (if_neg ?_).mpr (hK _ ?_)); (decide); clear hK K) | (split <;> (with_reducible refine hK _ ?_; clear hK K))))
          all_goals ((with_reducible refine wpQuiet_nil ?_); intro _ hw'; obtain ⟨nq, hw''⟩ := hw'; subst hw'')
          all_goals
            go_wp2_with fail
            go_ret
            exact ⟨ret_int he.out.symm, _, by first | rfl | (simp only [World.drewN_drewN, World.drew_drewN, World.drewN_drew]; rfl)⟩
        · by_cases q2 : y < x
          · have t3 : (x < y) = False := eq_false q1
            have t4 : (y < x) = True := eq_true q2
            have he : Hid (R = 1) := hid (by rw [HC.out, if_neg q1, if_pos q2])
            clear HC q1 q2
            go_wp2_with fail
            refine wp_region_quiet_lit (by kernel_rfl) (by kernel_rfl) ?_
            repeat (any_goals ((with_reducible refine wpQuiet_step (fun K hK => ?_)); go_simp; first | (with_reducible refine hK _ ?_; clear hK K) | ((with_reducible apply Exists.intro); (with_reducible refine ⟨fun _ => ?_, hK _ ?_⟩); (fail); clear hK K) | ((with_reducible refine (if_neg ?_).mpr (hK _ ?_)); (decide); clear hK K) | (split <;> (with_reducible refine hK _ ?_; clear hK K))))
            all_goals ((with_reducible refine wpQuiet_nil ?_); intro _ hw'; obtain ⟨nq, hw''⟩ := hw'; subst hw'')
            all_goals
              go_wp2_with fail
              refine wp_region_quiet_lit (by kernel_rfl) (by kernel_rfl) ?_
              repeat (any_goals ((with_reducible refine wpQuiet_step (fun K hK => ?_)); go_simp; first | (with_reducible refine hK _ ?_; clear hK K) | ((with_reducible apply Exists.intro); (with_reducible refine ⟨fun _ => ?_, hK _ ?_⟩); (fail); clear hK K) | ((with_reducible refine (if_neg ?_).mpr (hK _ ?_)); (decide); clear hK K) | (split <;> (with_reducible refine hK _ ?_; clear hK K))))
              all_goals ((with_reducible refine wpQuiet_nil ?_); intro _ hw'; obtain ⟨nq, hw''⟩ := hw'; subst hw'')
              all_goals
                go_wp2_with fail
                go_ret
                exact ⟨ret_int he.out.symm, _, by first | rfl | (simp only [World.drewN_drewN, World.drew_drewN, World.drewN_drew]; rfl)⟩
          · have t3 : (x < y) = False := eq_false q1
            have t4 : (y < x) = False := eq_false q2
            have he : Hid (R = cmpL (l.drop (k + 1)) (m.drop (k + 1))) := hid (by rw [HC.out, if_neg q1, if_neg q2])
            clear HC q1 q2
            go_wp2_with fail
            refine wp_region_quiet_lit (by kernel_rfl) (by kernel_rfl) ?_
            repeat (any_goals ((with_reducible refine wpQuiet_step (fun K hK => ?_)); go_simp; first | (with_reducible refine hK _ ?_; clear hK K) | ((with_reducible apply Exists.intro); (with_reducible refine ⟨fun _ => ?_, hK _ ?_⟩); (fail); clear hK K) | ((with_reducible refine (if_neg ?_).mpr (hK _ ?_)); (decide); clear hK K) | (split <;> (with_reducible refine hK _ ?_; clear hK K))))
            all_goals ((with_reducible refine wpQuiet_nil ?_); intro _ hw'; obtain ⟨nq, hw''⟩ := hw'; subst hw'')
            all_goals
              go_wp2_with fail
              refine wp_region_quiet_lit (by kernel_rfl) (by kernel_rfl) ?_
              repeat (any_goals ((with_reducible refine wpQuiet_step (fun K hK => ?_)); go_simp; first | (with_reducible refine hK _ ?_; clear hK K) | ((with_reducible apply Exists.intro); (with_reducible refine ⟨fun _ => ?_, hK _ ?_⟩); (fail); clear hK K) | ((with_reducible refine (if_neg ?_).mpr (hK _ ?_)); (decide); clear hK K) | (split <;> (with_reducible refine hK _ ?_; clear hK K))))
              all_goals ((with_reducible refine wpQuiet_nil ?_); intro _ hw'; obtain ⟨nq, hw''⟩ := hw'; subst hw'')
              all_goals
                go_wp2_with fail
                -- STOP-c
                go_roundw
                case rel => exact ⟨k + 1, by omega, by omega, by go_num, he, _, by first | rfl | (simp only [World.drewN_drewN, World.drew_drewN, World.drewN_drew]; rfl)⟩
                case measure => simp [intOf]; omega
      · have t2 : ((k : Int) < (m.length : Int)) = False := eq_false (by omega)
        have he : Hid (R = 1) := hid (by rw [HK.out, List.drop_eq_getElem_cons h1, show m.drop k = [] from List.drop_eq_nil_of_le (by omega)]; rfl)
        have t3 : ((l.length : Int) < (m.length : Int)) = False := eq_false (by omega)
        have t4 : ((m.length : Int) < (l.length : Int)) = True := eq_true (by omega)
        clear HK HR0
        go_wp2_with fail
        -- STOP-d
        go_ret
        exact ⟨ret_int he.out.symm, _, rfl⟩
    · have t1 : ((k : Int) < (l.length : Int)) = False := eq_false (by omega)
      by_cases h2 : l.length < m.length
      · have he : Hid (R = -1) := hid (by rw [HK.out, show l.drop k = [] from List.drop_eq_nil_of_le (by omega), List.drop_eq_getElem_cons (show k < m.length by omega)]; rfl)
        have t3 : ((l.length : Int) < (m.length : Int)) = True := eq_true (by omega)
        clear HK HR0
        go_wp2_with fail
        go_ret
        exact ⟨ret_int he.out.symm, _, rfl⟩
      · have he : Hid (R = 0) := hid (by rw [HK.out, show l.drop k = [] from List.drop_eq_nil_of_le (by omega), show m.drop k = [] from List.drop_eq_nil_of_le (by omega)]; rfl)
        have t3 : ((l.length : Int) < (m.length : Int)) = False := eq_false (by omega)
        have t4 : ((m.length : Int) < (l.length : Int)) = False := eq_false (by omega)
        clear HK HR0
        go_wp2_with fail
        go_ret
        exact ⟨ret_int he.out.symm, _, rfl⟩
end Go.Proofs.YtldlmkfigjicgaaGreatDoor
/- viewref.row, viewref.Set. -/
namespace Go.Proofs.YtldlmkfigjicgaaGreatDoor
set_option linter.unusedVariables false
set_option linter.unusedSimpArgs false
open Go.ChangeShapes Go.WideShapes Go.ChangeAt Go.RowKit

theorem inB_out (n : Int) : inB n (-1073741824) 1073741824 = !outB n := by
  unfold inB outB
  rw [Bool.eq_iff_iff]
  simp
theorem inB_far (n : Int) : inB n (-1048576) 1048576 = !farB n := by
  unfold inB farB
  rw [Bool.eq_iff_iff]
  simp
def okR (l : List Int) (i : Nat) : Bool := decide (l.length ≤ 8) && !(l.take i).any outB
theorem okR_zero (l : List Int) : okR l 0 = decide (l.length ≤ 8) := by simp [okR]
theorem okR_succ (l : List Int) {i : Nat} (h : i < l.length) : okR l (i + 1) = (okR l i && !outB l[i]) := by
  unfold okR
  rw [List.take_succ_eq_append_getElem h, List.any_append]
  simp [Bool.and_assoc]
theorem okR_all (l : List Int) : okR l l.length = rowB l := by unfold okR rowB; rw [List.take_length]
set_option maxHeartbeats 1000000 in
set_option maxRecDepth 100000 in
theorem Rrow_any (l : List Int) (A : Option Addr) (c : Nat) (w : World) (hr : Row w w.heap.size A (icells' l)) (hl : l.length ≤ 9223372036854775807) :
    Calls Tryz.prog 37 #[.slice A l.length c] w fun e w' => e = .returned (.bool (rowB l)) ∧ w = w' := by
  have HR := hid hr
  clear hr
  go_enter Tryz.func37, Tryz.ntmps37
  go_wp2_with fail
  -- STOP-a
  go_loopw [3, 4] (fun s3 s4 wr => ∃ i : Nat, i ≤ l.length ∧ s4 = .int .i64 i ∧ s3 = .bool (okR l i) ∧ wr = w) (fun _ s4 _ => l.length - (intOf s4).toNat)
  case atStart => exact ⟨0, by omega, rfl, by rw [okR_zero]; first | rfl | (congr 1; apply decide_eq_decide.2; omega), rfl⟩
  case round =>
    obtain ⟨i, hi, rfl, rfl, rfl⟩ := hrel
    by_cases hlt : i < l.length
    · have t1 : ((i : Int) < (l.length : Int)) = True := eq_true (by omega)
      obtain ⟨b, off, rfl, hb, h0⟩ := HR.out.int' hlt
      have HS := hid (okR_succ l hlt)
      have HI := hid (inB_out l[i])
      generalize l[i] = x at *
      obtain ⟨ok, hok⟩ : ∃ q, q = okR l i := ⟨_, rfl⟩
      rw [← hok] at HS ⊢
      clear hok
      cases ok
      · go_wp2_with fail
        -- STOP-b
        go_roundw
        case rel => exact ⟨i + 1, by omega, by go_num, by rw [HS.out]; rfl, by first | rfl | trivial⟩
        case measure => simp [intOf]; omega
      · go_wp2_with (go_at_call 38; refine (in_any _ _ _ _).mono ?_; rintro e w' ⟨rfl, rfl⟩)
        -- STOP-c
        go_roundw
        case rel => exact ⟨i + 1, by omega, by go_num, by rw [HS.out, ← HI.out]; rfl, by first | rfl | trivial⟩
        case measure => simp [intOf]; omega
    · have t1 : ((i : Int) < (l.length : Int)) = False := eq_false (by omega)
      have hil : i = l.length := by omega
      subst hil
      rw [okR_all]
      go_wp2_with fail
      -- STOP-d
      go_ret
      exact ⟨rfl, rfl⟩
set_option maxHeartbeats 4000000 in
set_option maxRecDepth 100000 in
theorem Rset_any (M : List IR) (A : Option Addr) (c : Nat) (w : World) (hr : RowI w w.heap.size A M) (hl : M.length ≤ 9223372036854775807) :
    Calls Tryz.prog 11 #[.slice A M.length c] w fun e w' => e = .returned (.int .i64 (setI (its M))) ∧ Below w.heap.size w w' := by
  have HR := hid hr
  clear hr
  have HE := hid (show setI (its M) = if 400 < (its M).length then 2 else if (List.range (its M).length).any (zbadAt (its M)) = true then 5 else 0 from rfl)
  obtain ⟨E, hE⟩ : ∃ E, E = setI (its M) := ⟨_, rfl⟩
  rw [← hE] at HE ⊢
  rw [its_len] at HE
  clear hE
  by_cases h4 : 400 < M.length
  · have h4' : (400 : Int) < (M.length : Int) := by omega
    have HD : Hid (E = 2) := hid (by rw [HE.out, if_pos h4])
    go_enter Tryz.func11, Tryz.ntmps11
    go_wp2
    go_ret
    exact ⟨ret_int (by rw [HD.out]), Below.refl _ _⟩
  · have h4' : (M.length : Int) ≤ 400 := by omega
    have h4n : M.length ≤ 400 := by omega
    replace HE : Hid (E = if (List.range M.length).any (zbadAt (its M)) = true then 5 else 0) := hid (by rw [HE.out, if_neg h4])
    clear h4
    go_enter Tryz.func11, Tryz.ntmps11
    go_wp2_with fail
    go_loopw [3] (fun s3 wr => ∃ i : Nat, i ≤ M.length ∧ s3 = .int .i64 i ∧ Hid (∀ j, j < i → zbadAt (its M) j = false) ∧ Hid (Below w.heap.size w wr)) (fun s3 _ => M.length - (intOf s3).toNat)
    case atStart => exact ⟨0, by omega, rfl, hid (fun j h => by omega), hid (Below.refl _ _)⟩
    case round =>
      obtain ⟨i, hi, rfl, HNO, HB⟩ := hrel
      obtain ⟨W, rfl⟩ : ∃ wx : World, wx = wr := ⟨_, rfl⟩
      by_cases hlt : i < M.length
      · have t1 : ((i : Int) < (M.length : Int)) = True := eq_true (by omega)
        have HRR := hid (HR.out.step HB.out)
        obtain ⟨b, off, rfl, hb, h0, h1⟩ := HRR.out.1.it hlt
        have hmem := List.getElem_mem hlt
        have hrw := HRR.out.2 _ hmem
        have HBA : Hid (zbadAt (its M) i = ((badB M[i].it || decide (M[i].n = 0)) || (if h : 0 < i then decide (0 ≤ cmpL M[i - 1].row M[i].row) else false))) := hid (by
          cases i with
          | zero => rw [badAt_zero (by rw [its_len]; exact hlt)]; simp [its]
          | succ k => rw [badAt_succ (by rw [its_len]; exact hlt)]; simp [its])
        have hprev : ∀ h : 0 < i, ∃ (y : List Int) (yA : Option Addr) (yk : Nat), W.cell? ⟨b, off + (i - 1) * 2, none⟩ = some (.slice yA y.length yk) ∧ Row W W.heap.size yA (icells' y) ∧ y.length ≤ 9223372036854775807 ∧ y = M[i - 1].row := fun h => by
          obtain ⟨b2, off2, hA2, hb2, g0, g1⟩ := HRR.out.1.it (show i - 1 < M.length by omega)
          injection hA2 with hA2
          injection hA2 with q1 q2
          subst q1 q2
          exact ⟨_, _, _, g0, (HRR.out.2 _ (List.getElem_mem _)).1, (HRR.out.2 _ (List.getElem_mem _)).2, rfl⟩
        obtain ⟨bad, hbad⟩ : ∃ bad, bad = zbadAt (its M) i := ⟨_, rfl⟩
        have HBD := hid hbad
        rw [← hbad] at HBA
        clear hbad hmem
        generalize M[i] = x at *
        obtain ⟨xr, xA, xk, xn⟩ := x
        simp only at h0 h1 hrw
        simp only [IR.it] at HBA
        obtain ⟨hrw1, hrw2⟩ := hrw
        have HROW := hid (fun w1 (hb : Below W.heap.size W w1) => Rrow_any xr xA xk w1 (hrw1.step hb) hrw2)
        have HFAR := hid (fun w1 => show Calls Tryz.prog 38 #[.int .i64 xn, .int .i64 (-1048576), .int .i64 1048576] w1 fun e w' => e = .returned (.bool (!farB xn)) ∧ w1 = w' from by rw [← inB_far]; exact in_any xn _ _ w1)
        have HXR := hid hrw1
        obtain ⟨rb, hrb⟩ : ∃ q, q = rowB xr := ⟨_, rfl⟩
        obtain ⟨fb, hfb⟩ : ∃ q, q = farB xn := ⟨_, rfl⟩
        rw [← hrb] at HROW
        rw [← hfb] at HFAR
        replace HBA : Hid (bad = (((!rb || fb) || decide (xn = 0)) || (if h : 0 < i then decide (0 ≤ cmpL M[i - 1].row xr) else false))) := hid (by rw [HBA.out, badB, ← hrb, ← hfb])
        clear hrb hfb
        have HPRE := hid hprev
        clear hprev hrw1
        go_upto_region 6 with fail
        -- STOP-e
        go_cut [55] from 13 to 55 (fun s wx => s = .bool bad ∧ Hid (Below W.heap.size W wx))
        case first =>
          cases rb
          · go_wp2
            refine region_ext (by kernel_rfl) (by kernel_rfl) (fun hext => ?_)
            repeat (any_goals ((with_reducible refine wpQuiet_step (fun K hK => ?_)); go_simp; first | (with_reducible refine hK _ ?_; clear hK K) | ((with_reducible apply Exists.intro); (with_reducible refine ⟨fun _ => ?_, hK _ ?_⟩); ((first | (go_at_call 37; exact ext_call_same _ (HROW.out _ (Ext.below _))) | (go_at_call 38; exact ext_call_same _ (HFAR.out _)) | (go_at_call 17; exact ext_call _ (Nat.le_refl _) (HORD.out _ (Ext.below _))))); clear hK K) | ((with_reducible refine (if_neg ?_).mpr (hK _ ?_)); (decide); clear hK K) | (split <;> (with_reducible refine hK _ ?_; clear hK K))))
            all_goals ((with_reducible refine wpQuiet_nil ?_); clear hext; intro w1 hx1; have hb1 := ext_below hx1; clear hx1)
            go_wp2
            all_goals
              go_meet
              case rel => exact ⟨by rw [HBA.out]; rfl, hid hb1⟩
          · by_cases hn : xn = 0
            · have t2 : (xn == 0) = true := by simp [hn]
              have HN := hid hn
              clear hn
              go_wp2
              refine region_ext (by kernel_rfl) (by kernel_rfl) (fun hext => ?_)
              repeat (any_goals ((with_reducible refine wpQuiet_step (fun K hK => ?_)); go_simp; first | (with_reducible refine hK _ ?_; clear hK K) | ((with_reducible apply Exists.intro); (with_reducible refine ⟨fun _ => ?_, hK _ ?_⟩); ((first | (go_at_call 37; exact ext_call_same _ (HROW.out _ (Ext.below _))) | (go_at_call 38; exact ext_call_same _ (HFAR.out _)) | (go_at_call 17; exact ext_call _ (Nat.le_refl _) (HORD.out _ (Ext.below _))))); clear hK K) | ((with_reducible refine (if_neg ?_).mpr (hK _ ?_)); (decide); clear hK K) | (split <;> (with_reducible refine hK _ ?_; clear hK K))))
              all_goals ((with_reducible refine wpQuiet_nil ?_); clear hext; intro w1 hx1; have hb1 := ext_below hx1; clear hx1)
              go_wp2
              all_goals
                go_meet
                case rel => exact ⟨by rw [HBA.out, decide_eq_true HN.out]; simp, hid hb1⟩
            · have t2 : (xn == 0) = false := by simp [hn]
              have HN := hid hn
              clear hn
              cases fb
              · by_cases hi0 : 0 < i
                · obtain ⟨y, yA, yk, g0, g1, g2, g3⟩ := HPRE.out hi0
                  have HORD := hid (fun w1 (hb1 : Below W.heap.size W w1) => (Rorder_any y xr yA xA yk xk w1 (g1.step hb1) (HXR.out.step hb1) g2 hrw2).mono fun e w' ⟨he, hq⟩ => (⟨he, by obtain ⟨q, hq⟩ := hq; rw [hq]; exact below_drewN (Below.refl _ _) q⟩ : e = Ending.returned (.int .i64 (cmpL y xr)) ∧ Below w1.heap.size w1 w'))
                  have hrng := cmpL_range y xr
                  obtain ⟨cv, hcv⟩ : ∃ q, q = cmpL y xr := ⟨_, rfl⟩
                  rw [← hcv] at HORD hrng
                  have HBB : Hid (bad = decide (0 ≤ cv)) := hid (by rw [HBA.out, dif_pos hi0, ← g3, ← hcv, decide_eq_false HN.out]; simp)
                  have hi1 : (0 : Int) < (i : Int) := by omega
                  have hw1 : IntKind.i64.wrap ((i : Int) - 1) = (i : Int) - 1 := IntWalk.i64_in _ (by omega)
                  have hi2 : ((i : Int) - 1).toNat = i - 1 := by omega
                  have hi3 : (0 : Int) ≤ (i : Int) - 1 := by omega
                  have hi4 : (1 : Int) ≤ (i : Int) := by omega
                  have hi5 : (i : Int) - 1 < (M.length : Int) := by omega
                  clear hcv g1 g3
                  by_cases hc : 0 ≤ cv
                  · have HC := hid hc
                    have hcd : (cv != -1) = true := by simp only [bne_iff_ne, ne_eq]; omega
                    clear hc hrng
                    go_wp2
                    refine region_ext (by kernel_rfl) (by kernel_rfl) (fun hext => ?_)
                    repeat (any_goals ((with_reducible refine wpQuiet_step (fun K hK => ?_)); go_simp; first | (with_reducible refine hK _ ?_; clear hK K) | ((with_reducible apply Exists.intro); (with_reducible refine ⟨fun _ => ?_, hK _ ?_⟩); ((first | (go_at_call 37; exact ext_call_same _ (HROW.out _ (Ext.below _))) | (go_at_call 38; exact ext_call_same _ (HFAR.out _)) | (go_at_call 17; exact ext_call _ (Nat.le_refl _) (HORD.out _ (Ext.below _))))); clear hK K) | ((with_reducible refine (if_neg ?_).mpr (hK _ ?_)); (decide); clear hK K) | (split <;> (with_reducible refine hK _ ?_; clear hK K))))
                    all_goals ((with_reducible refine wpQuiet_nil ?_); clear hext; intro w1 hx1; have hb1 := ext_below hx1; clear hx1)
                    go_wp2
                    all_goals
                      go_meet
                      case rel => exact ⟨by rw [HBB.out, decide_eq_true HC.out], hid hb1⟩
                  · have HC := hid hc
                    have hcd : (cv != -1) = false := by
                      have : cv = -1 := by omega
                      simp [this]
                    clear hc hrng
                    go_wp2
                    refine region_ext (by kernel_rfl) (by kernel_rfl) (fun hext => ?_)
                    repeat (any_goals ((with_reducible refine wpQuiet_step (fun K hK => ?_)); go_simp; first | (with_reducible refine hK _ ?_; clear hK K) | ((with_reducible apply Exists.intro); (with_reducible refine ⟨fun _ => ?_, hK _ ?_⟩); ((first | (go_at_call 37; exact ext_call_same _ (HROW.out _ (Ext.below _))) | (go_at_call 38; exact ext_call_same _ (HFAR.out _)) | (go_at_call 17; exact ext_call _ (Nat.le_refl _) (HORD.out _ (Ext.below _))))); clear hK K) | ((with_reducible refine (if_neg ?_).mpr (hK _ ?_)); (decide); clear hK K) | (split <;> (with_reducible refine hK _ ?_; clear hK K))))
                    all_goals ((with_reducible refine wpQuiet_nil ?_); clear hext; intro w1 hx1; have hb1 := ext_below hx1; clear hx1)
                    go_wp2
                    all_goals
                      go_meet
                      case rel => exact ⟨by rw [HBB.out, decide_eq_false (by have := HC.out; omega)], hid hb1⟩
                · have HBB : Hid (bad = false) := hid (by rw [HBA.out, dif_neg hi0, decide_eq_false HN.out]; simp)
                  have hi1 : decide ((0 : Int) < (i : Int)) = false := decide_eq_false (by omega)
                  have hi2 : ¬ (0 : Int) < (i : Int) := by omega
                  go_wp2
                  refine region_ext (by kernel_rfl) (by kernel_rfl) (fun hext => ?_)
                  repeat (any_goals ((with_reducible refine wpQuiet_step (fun K hK => ?_)); go_simp; first | (with_reducible refine hK _ ?_; clear hK K) | ((with_reducible apply Exists.intro); (with_reducible refine ⟨fun _ => ?_, hK _ ?_⟩); ((first | (go_at_call 37; exact ext_call_same _ (HROW.out _ (Ext.below _))) | (go_at_call 38; exact ext_call_same _ (HFAR.out _)) | (go_at_call 17; exact ext_call _ (Nat.le_refl _) (HORD.out _ (Ext.below _))))); clear hK K) | ((with_reducible refine (if_neg ?_).mpr (hK _ ?_)); (decide); clear hK K) | (split <;> (with_reducible refine hK _ ?_; clear hK K))))
                  all_goals ((with_reducible refine wpQuiet_nil ?_); clear hext; intro w1 hx1; have hb1 := ext_below hx1; clear hx1)
                  go_wp2
                  all_goals
                    go_meet
                    case rel => exact ⟨by rw [HBB.out], hid hb1⟩
              · go_wp2
                refine region_ext (by kernel_rfl) (by kernel_rfl) (fun hext => ?_)
                repeat (any_goals ((with_reducible refine wpQuiet_step (fun K hK => ?_)); go_simp; first | (with_reducible refine hK _ ?_; clear hK K) | ((with_reducible apply Exists.intro); (with_reducible refine ⟨fun _ => ?_, hK _ ?_⟩); ((first | (go_at_call 37; exact ext_call_same _ (HROW.out _ (Ext.below _))) | (go_at_call 38; exact ext_call_same _ (HFAR.out _)) | (go_at_call 17; exact ext_call _ (Nat.le_refl _) (HORD.out _ (Ext.below _))))); clear hK K) | ((with_reducible refine (if_neg ?_).mpr (hK _ ?_)); (decide); clear hK K) | (split <;> (with_reducible refine hK _ ?_; clear hK K))))
                all_goals ((with_reducible refine wpQuiet_nil ?_); clear hext; intro w1 hx1; have hb1 := ext_below hx1; clear hx1)
                go_wp2
                all_goals
                  go_meet
                  case rel => exact ⟨by rw [HBA.out]; simp, hid hb1⟩
        case rest =>
          obtain ⟨rfl, HB4⟩ := hcut
          have HB5 := hid (Below.step' HB.out HB4.out)
          cases bad
          · go_wp2_with fail
            go_roundw
            case rel =>
              refine ⟨i + 1, by omega, by go_num, hid (fun j hj => ?_), HB5⟩
              by_cases e : j = i
              · rw [e]; exact HBD.out.symm
              · exact HNO.out j (by omega)
            case measure => simp [intOf]; omega
          · have HD : Hid (E = 5) := hid (by rw [HE.out, if_pos (List.any_eq_true.2 ⟨i, List.mem_range.2 hlt, HBD.out.symm⟩)])
            go_wp2
            go_ret
            exact ⟨ret_int (by rw [HD.out]), HB5.out⟩
      · have HD : Hid (E = 0) := hid (by
          rw [HE.out, if_neg]
          intro h
          obtain ⟨j, hj, e⟩ := List.any_eq_true.1 h
          rw [HNO.out j (by have := List.mem_range.1 hj; omega)] at e
          cases e)
        have t1 : ((i : Int) < (M.length : Int)) = False := eq_false (by omega)
        go_wp2
        go_ret
        exact ⟨ret_int (by rw [HD.out]), HB.out⟩
end Go.Proofs.YtldlmkfigjicgaaGreatDoor
